/- Parts of the proof, merged: UnitRW ConcatW ProvePW UnitVW. No condition but those that each theorem names. -/
import Derived.Test.YtpgkellmhlmjeaaGreatDoorMgAL
import Derived.Deep.DeepCutAuto
import Derived.Test.YtpgkellmhlmjeaaGreatDoorMgAC
import Derived.Lib.AppendZerosOnto
import Derived.Lib.AppendZeros
import Derived.Test.YtpgkellmhlmjeaaGreatDoorMgAK
import Derived.Test.YtpgkellmhlmjeaaGreatDoorMgAI
namespace Go.Proofs.YtpgkellmhlmjeaaGreatDoor
open Go.RowKit Go.Sort
noncomputable def utC (d : Int) : Int := if pcC d = 0 then (if (unR d).isSome = true then 0 else 5) else pcC d
def RetUo (w : World) (R : Option (Int × Int)) (c : Int) (e : Ending) (w' : World) : Prop :=
  ∃ P0 P1 N : Int, e = .returned (.tuple #[pairV P0 P1, .int .i64 N, .int .i64 c]) ∧ (c = 0 → R = some (P0, P1)) ∧ Below w.heap.size w w'
theorem utC_bad {d : Int} (h : ¬ pcC d = 0) : utC d = pcC d := by simp [utC, h]
theorem utC_none {d : Int} (h : pcC d = 0) (h2 : unR d = none) : utC d = 5 := by simp [utC, h, h2]
theorem utC_some {d : Int} {p : Int × Int} (h : pcC d = 0) (h2 : unR d = some p) : utC d = 0 := by simp [utC, h, h2]
theorem utC_zero {d : Int} (h : utC d = 0) : pcC d = 0 ∧ ∃ p, unR d = some p := by
  by_cases h1 : pcC d = 0
  · refine ⟨h1, ?_⟩
    cases h2 : unR d with
    | none => rw [utC_none h1 h2] at h; omega
    | some p => exact ⟨p, rfl⟩
  · exact absurd ((utC_bad h1).symm.trans h) h1
theorem pcC_in (d : Int) : 0 ≤ pcC d ∧ pcC d ≤ 6 := by
  unfold pcC
  split <;> (try split) <;> omega
set_option maxRecDepth 100000 in
set_option maxHeartbeats 2000000 in
theorem utI_any (d : Int) (w : World) : Calls Tryz.prog 56 #[.int .i64 d] w (RetUo w (unR d) (utC d)) := by
  have HK := Lib.hid (fun W : World => checkPell_any d W)
  have B2 : BoxV w.heap.size [.int .i64 0, .int .i64 0] (w.alloc (.cells #[.int .i64 0, .int .i64 0] 34)) := BoxV.new w #[.int .i64 0, .int .i64 0] 34
  have HB := Lib.hid (ext1 w (.cells #[.int .i64 0, .int .i64 0] 34))
  by_cases h0 : pcC d = 0
  · obtain ⟨h1, h2, h3⟩ := pcC_zero h0
    rw [h0] at HK
    have HU := Lib.hid (fun W : World => unit_any d W h1 h2 h3)
    have HC0 : Hid (unR d = none → utC d = 5) := fun h => utC_none h0 h
    have HC1 : Hid (∀ p, unR d = some p → utC d = 0) := fun p h => utC_some h0 h
    clear h0 h1 h2 h3
    generalize utC d = cd at *
    generalize unR d = R at *
    cases R with
    | none =>
      have HC := Lib.hid (HC0.out rfl)
      clear HC0 HC1
      go_enter Tryz.func56, Tryz.ntmps56
      go_wp2_with fail
      refine (HK.out _).mono ?_
      rintro e w1 ⟨rfl, rfl⟩
      go_wp2_with fail
      refine (HU.out _).mono ?_
      rintro e w1 ⟨N, rfl, hb1⟩
      generalize hP0 : ((none : Option (Int × Int)).getD (0, 0)).1 = P0 at *
      generalize hP1 : ((none : Option (Int × Int)).getD (0, 0)).2 = P1 at *
      have B3 := B2.next hb1
      have HB3 := Lib.hid (ext_trans HB.out hb1)
      simp only [Option.isSome_none]
      have B4 := B3.alloc (.cells #[.int .i64 P0, .int .i64 P1] 34)
      have HB4 := Lib.hid (ext_alloc HB3.out (.cells #[.int .i64 P0, .int .i64 P1] 34))
      have y0 := B4.at 0 _ rfl
      have y1 := B4.at 1 _ rfl
      have F0 := B4.f 0
      have F1 := B4.f 1
      obtain ⟨s0, s1⟩ := set_two y0 y1
      go_wp2
      exact bodyPost_ret (v := .tuple #[pairV 0 0, .int .i64 0, .int .i64 5]) (by simp [results, Tryz.results56, go_sem, s0, s1]; done) rfl ⟨0, 0, 0, by rw [HC.out], (fun h => by rw [HC.out] at h; omega), ext_set (ext_set HB4.out (by simp) _) (by simp) _⟩
    | some p =>
      obtain ⟨p1, p2⟩ := p
      have HC := Lib.hid (HC1.out _ rfl)
      clear HC0 HC1
      go_enter Tryz.func56, Tryz.ntmps56
      go_wp2_with fail
      refine (HK.out _).mono ?_
      rintro e w1 ⟨rfl, rfl⟩
      go_wp2_with fail
      refine (HU.out _).mono ?_
      rintro e w1 ⟨N, rfl, hb1⟩
      simp only [Option.getD_some]
      have B3 := B2.next hb1
      have HB3 := Lib.hid (ext_trans HB.out hb1)
      simp only [Option.isSome_some]
      have B4 := B3.alloc (.cells #[.int .i64 p1, .int .i64 p2] 34)
      have B5 := BoxV.new w1 #[.int .i64 p1, .int .i64 p2] 34
      have HB4 := Lib.hid (ext_alloc HB3.out (.cells #[.int .i64 p1, .int .i64 p2] 34))
      have y0 := B4.at 0 _ rfl
      have y1 := B4.at 1 _ rfl
      have F0 := B4.f 0
      have F1 := B4.f 1
      have z0 := B5.at 0 _ rfl
      have z1 := B5.at 1 _ rfl
      obtain ⟨s0, s1⟩ := set_two y0 y1
      go_wp2
      exact bodyPost_ret (v := .tuple #[pairV p1 p2, .int .i64 N, .int .i64 0]) (by simp [results, Tryz.results56, go_sem, s0, s1]; done) rfl ⟨p1, p2, N, by rw [HC.out], (fun _ => rfl), ext_set (ext_set HB4.out (by simp) _) (by simp) _⟩
  · have HC := Lib.hid (utC_bad h0)
    rw [HC.out]
    have t0 : (pcC d != 0) = true := by simpa using h0
    have HZ := Lib.hid h0
    clear h0
    generalize pcC d = cd at *
    go_enter Tryz.func56, Tryz.ntmps56
    go_wp2_with fail
    refine (HK.out _).mono ?_
    rintro e w1 ⟨rfl, rfl⟩
    go_wp2
    exact bodyPost_ret (v := .tuple #[pairV 0 0, .int .i64 0, .int .i64 cd]) (by simp [results, Tryz.results56, go_sem]; done) rfl ⟨0, 0, 0, rfl, (fun h => absurd h HZ.out), HB.out⟩
end Go.Proofs.YtpgkellmhlmjeaaGreatDoor
namespace Go.Proofs.YtpgkellmhlmjeaaGreatDoor
open Go.RowKit Go.Sort
theorem own_fullC {w : World} {base : Nat} {v : Value} {xs : List Int} (h : w.ownsRow base 2 1 v xs.length (xs.map (Value.int .i64))) : ∃ A c, v = .slice A xs.length c ∧ Wr (Value.int .i64) w base A xs ∧ xs.length ≤ c ∧ c ≤ maxLen := by
  obtain ⟨_, A, c, e, g⟩ := Wr.of_own h
  refine ⟨A, c, e, g, ?_⟩
  rcases h.2 with ⟨e2, h0⟩ | ⟨g', cap, cur, e2, _, _, hc, hm, _⟩
  · rw [e] at e2
    injection e2 with _ _ e3
    rw [e3, h0]
    exact ⟨Nat.le_refl _, Nat.zero_le _⟩
  · rw [e] at e2
    injection e2 with _ _ e3
    rw [e3]
    exact ⟨hc, hm⟩
/-- What a call returns that makes a slice with room. -/
def RetCap (w : World) (xs : List Int) (e : Ending) (w' : World) : Prop :=
  ∃ A c, e = .returned (.slice A xs.length c) ∧ Wr (Value.int .i64) w' w.heap.size A xs ∧ (xs.length ≤ c ∧ c ≤ maxLen) ∧ Below w.heap.size w w'
theorem own_room {w : World} {base : Nat} {e : TypeId} {size n : Nat} {v : Value} {xs : List Value} (h : w.ownsRow base e size v n xs) : ∃ B cp, v = .slice B n cp ∧ n ≤ cp := by
  rcases h.2 with ⟨rfl, rfl⟩ | ⟨g, cap, cur, rfl, _, _, hc, _⟩
  · exact ⟨_, _, rfl, Nat.le_refl _⟩
  · exact ⟨_, _, rfl, hc⟩
theorem run_append_empty (B : Option Addr) (n cp : Nat) (A : Option Addr) (d : Nat) (ty : TypeId) (w : World) (h : n ≤ cp) :
    (Builtin.append_ #[24, 24] ty #[.slice B n cp, .slice A 0 d]).run Tryz.prog w = .ok (.slice B n cp) w := by
  obtain ⟨i0, hi, hz0, hz1, hz2⟩ := info_parts info64
  have ht := Tryz.underlying24
  cases B <;> cases A <;> simp [Builtin.append_, run_underlying ht, sizeOf, typeInfo, hi, Builtin.lenOf, h, Builtin.firstCells, loadCells, loadCellsFrom, storeCells]
set_option maxRecDepth 100000 in
theorem growNil_any (n : Nat) (w : World) (hn : n ≤ 1000000000) :
    Calls Tryz.prog 103 #[.slice none 0 0, .int .i64 (n : Int)] w fun e w' => ∃ v, e = .returned v ∧ w'.ownsRow w.heap.size 2 1 v 0 [] ∧ Below w.heap.size w w' := by
  obtain ⟨i0, hi, hz0, hz1, hz2⟩ := info_parts info64
  rcases Nat.eq_zero_or_pos n with h0 | h0
  · subst h0
    go_enter Tryz.func103, Tryz.ntmps103
    go_wp2
    go_ret
    exact ⟨_, rfl, own_nil, Below.refl _ _⟩
  · have hrz : ∀ ty, (Builtin.append_ #[24, 3] ty #[.slice none 0 0, .int .i64 (n : Int)]).run Tryz.prog w =
        .ok (.slice (some ⟨w.heap.size, 0, none⟩) (0 + n) (grownCap w (0 + n) 0 2)) (w.drew.alloc (.cells ((#[] : Array Value) ++ Builtin.zeroCells (Value.int .i64 0).cells n ++ Builtin.zeroCells (Value.int .i64 0).cells (grownCap w (0 + n) 0 2 - (0 + n))) 2)) := fun ty =>
      Lib.run_append_grow_zeros w 24 3 ty 2 i0 (.int .i64 0) .i64 .i64 Tryz.underlying24 Tryz.underlying3 hi hz0 none 0 0 [] (run_firstCells_none w.drew i0.size 0 0 0) n h0 (by omega) (by omega) (by omega) (by rw [hz2]; omega) (growslice_fits (by omega) (by rw [hz2]; omega))
    have hge := grownCap_ge w (0 + n) 0 2
    have hcm := grownCap_le_maxLen w (0 + n) 0 2 (by unfold maxLen; omega)
    generalize hG : grownCap w (0 + n) 0 2 = G at *
    clear hG
    have hsz : ((#[] : Array Value) ++ Builtin.zeroCells (Value.int .i64 0).cells n ++ Builtin.zeroCells (Value.int .i64 0).cells (G - (0 + n))).size = G * 1 := by
      simp [size_zeroCells, Value.cells]
      omega
    have hown := World.ownsRow_made (base := w.heap.size) (e := 2) (size := 1) w.drew _ G (Nat.le_refl _) hcm hsz
    have HO := Lib.hid hown
    have HB := Lib.hid (ext_alloc (ext_drew (Below.refl w.heap.size w)) (.cells ((#[] : Array Value) ++ Builtin.zeroCells (Value.int .i64 0).cells n ++ Builtin.zeroCells (Value.int .i64 0).cells (G - (0 + n))) 2))
    have HRZ := Lib.hid hrz
    unfold maxLen at hcm
    clear hown hsz hrz hi hz0 hz1 hz2
    have hnG : n ≤ G := by omega
    generalize w.drew.alloc (.cells ((#[] : Array Value) ++ Builtin.zeroCells (Value.int .i64 0).cells n ++ Builtin.zeroCells (Value.int .i64 0).cells (G - (0 + n))) 2) = W at *
    have hp : 0 < (n : Int) := by omega
    go_enter Tryz.func103, Tryz.ntmps103
    go_wp2_with (at_builtin; refine Lib.wpList_append_run _ rfl _ _ _ _ rfl _ _ rfl rfl _ _ (HRZ.out _) ?_)
    go_ret
    exact ⟨_, rfl, HO.out, HB.out⟩
/-- A slice of slices of integers: their addresses, capacities, elements. -/
abbrev Part := Option Addr × Nat × List Int
def catL (P : List Part) : List Int := P.flatMap fun t => t.2.2
def PartsAt (w : World) (b : Nat) (P : List Part) : Prop := b < w.heap.size ∧ (∀ j t, P[j]? = some t → w.cell? ⟨b, j, none⟩ = some (.slice t.1 t.2.2.length t.2.1)) ∧ ∀ t ∈ P, Rd (Value.int .i64) w w.heap.size t.1 t.2.2
theorem PartsAt.next {w w' : World} {b : Nat} {P : List Part} (h : PartsAt w b P) (hb : Below w.heap.size w w') : PartsAt w' b P :=
  ⟨Nat.lt_of_lt_of_le h.1 hb.size, fun j t ht => (hb.cell (p := ⟨b, j, none⟩) h.1).trans (h.2.1 j t ht), fun t ht => ((h.2.2 t ht).below hb).more hb.size⟩
theorem catL_step {P : List Part} {k : Nat} {t : Part} (h : P[k]? = some t) : catL (P.take (k + 1)) = catL (P.take k) ++ t.2.2 := by
  unfold catL
  rw [List.take_add_one, h]
  simp
theorem catL_le (P : List Part) (k : Nat) : (catL (P.take k)).length ≤ (catL P).length := by
  have : catL P = catL (P.take k) ++ catL (P.drop k) := by
    unfold catL
    rw [← List.flatMap_append, List.take_append_drop]
  rw [this, List.length_append]
  omega
set_option maxRecDepth 100000 in
set_option maxHeartbeats 1000000 in
theorem concat_cap (b c : Nat) (P : List Part) (w : World) (hP : PartsAt w b P) (hl : P.length ≤ 1000) (hc : (catL P).length ≤ 1000000000) :
    Calls Tryz.prog 58 #[.slice (some ⟨b, 0, none⟩) P.length c] w (RetCap w (catL P)) := by
  obtain ⟨i0, hi, hz0, hz1, hz2⟩ := info_parts info64
  have HI := Lib.hid hi
  clear hi
  have HPP := Lib.hid hP
  clear hP
  have HLE := Lib.hid (catL_le P)
  go_enter Tryz.func58, Tryz.ntmps58
  go_wp2_with fail
  go_loop [11, 3] (fun t s => ∃ k : Nat, k ≤ P.length ∧ t = .int .i64 k ∧ s = .int .i64 ((catL (P.take k)).length : Int)) (fun t _ => P.length - (intOf t).toNat)
  case atStart => exact ⟨0, by omega, rfl, rfl⟩
  case round =>
    obtain ⟨k, hk, rfl, rfl⟩ := hrel
    by_cases hlt : k < P.length
    · obtain ⟨⟨A, d, xs⟩, htk⟩ : ∃ x, P[k]? = some x := ⟨_, List.getElem?_eq_getElem hlt⟩
      have c0 := HPP.out.2.1 k _ htk
      have HS := Lib.hid (congrArg List.length (catL_step htk))
      have h1 := HLE.out (k + 1)
      rw [HS.out] at h1
      simp only [List.length_append] at h1
      have HS2 : Hid ((catL (P.take (k + 1))).length = (catL (P.take k)).length + xs.length) := by
        have := HS.out
        rw [List.length_append] at this
        exact this
      have i0' : (0 : Int) ≤ (k : Int) := by omega
      have i1 : (k : Int) < (P.length : Int) := by omega
      clear htk HS
      generalize (catL (P.take k)).length = m at *
      simp only at c0
      go_wp2
      go_round
      case rel => exact ⟨k + 1, by omega, by go_num, by rw [HS2.out]; go_num⟩
      case measure => simp [intOf]; omega
    · obtain rfl : k = P.length := by omega
      rw [List.take_of_length_le (Nat.le_refl _)]
      have HG := Lib.hid (fun W : World => growNil_any (catL P).length W hc)
      have hcc : (catL P).length ≤ 1000000000 := hc
      generalize hM : catL P = M at *
      have HMM := Lib.hid hM
      clear hM
      have HLM : Hid (catL (P.take P.length) = M) := by unfold Hid; rw [List.take_of_length_le (Nat.le_refl _)]; exact HMM.out
      go_wp2_with fail
      refine (HG.out _).mono ?_
      rintro e w1 ⟨v, rfl, hown1, hb1⟩
      have HV0 : Hid (OutI w w.heap.size [] v w1) := ⟨hown1, hb1, hb1.size⟩
      clear hown1 hb1
      go_wp2_with fail
      go_loopw [27, 6] (fun t v wr => ∃ (k : Nat), k ≤ P.length ∧ t = .int .i64 k ∧ Hid (OutI w w.heap.size (catL (P.take k)) v wr)) (fun t _ _ => P.length - (intOf t).toNat)
      case atStart => exact ⟨0, by omega, rfl, HV0.out⟩
      case round =>
        obtain ⟨k, hk, rfl, HV⟩ := hrel
        clear HV0
        by_cases hlt : k < P.length
        · obtain ⟨⟨A, d, xs⟩, htk⟩ : ∃ x, P[k]? = some x := ⟨_, List.getElem?_eq_getElem hlt⟩
          have hPw := HPP.out.next HV.out.2.1
          have c0 := hPw.2.1 k _ htk
          have hrd := hPw.2.2 _ (List.mem_of_getElem? htk)
          have HS := Lib.hid (catL_step htk)
          have h1 := HLE.out (k + 1)
          rw [HS.out] at h1
          simp only [List.length_append] at h1
          have i0' : (0 : Int) ≤ (k : Int) := by omega
          have i1 : (k : Int) < (P.length : Int) := by omega
          clear htk hPw
          simp only at c0 hrd HS
          generalize hXX : catL (P.take k) = X at *
          clear hXX
          rcases Nat.eq_zero_or_pos xs.length with h0 | h0
          · have hxe : xs = [] := List.eq_nil_of_length_eq_zero h0
            subst hxe
            obtain ⟨B, cp, e1, hcp⟩ := own_room HV.out.1
            subst e1
            have HRE := Lib.hid (fun ty => run_append_empty B X.length cp A d ty wr hcp)
            have HN : Hid (catL (P.take (k + 1)) = X) := by unfold Hid; rw [HS.out]; simp
            simp only [List.length_nil] at c0
            go_wp2_with (at_builtin; refine Lib.wpList_append_run _ rfl _ _ _ _ rfl _ _ rfl rfl _ _ (HRE.out _) ?_)
            go_roundw
            case rel => exact ⟨k + 1, by omega, by go_num, by rw [HN.out]; exact HV.out⟩
            case measure => simp [intOf]; omega
          · obtain ⟨b', off, rfl, hb', hcc'⟩ := hrd h0
            have HC := Lib.hid hcc'
            have hown := HV.out.1
            have hbz := HV.out.2.2
            clear hcc' hrd
            go_wp2_with (at_builtin; refine wpList_append_own _ rfl _ _ 24 rfl w.heap.size 2 i0 (.int .i64 0) 1 8 Tryz.underlying24 HI.out hz0 hz1 hz2 rfl (by decide) _ _ _ rfl hown ⟨b', off, none⟩ xs.length d (xs.map (Value.int .i64)) rfl (by simp) ?c1 ?c2 ?c3 ?c4 ?c5 ?_)
            case c1 =>
              intro j u hu
              rw [List.getElem?_map] at hu
              cases hx : xs[j]? with
              | none => rw [hx] at hu; cases hu
              | some x =>
                rw [hx] at hu
                obtain rfl := Option.some.inj hu
                have hcx := HC.out j x hx
                have ea : (⟨b', off, none⟩ : Addr).add j = ⟨b', off + j, none⟩ := by simp [Addr.add]
                rw [ea]
                exact hcx
            case c2 => intro u hu; obtain ⟨x, _, rfl⟩ := List.mem_map.1 hu; rfl
            case c3 => unfold maxLen; omega
            case c4 => omega
            case c5 => exact hbz
            intro v' w3 hown3 hgrow _
            have HV3 : Hid (OutI w w.heap.size (catL (P.take (k + 1))) v' w3) := by
              unfold Hid
              rw [HS.out]
              refine ⟨by simpa using hown3, below_grown HV.out.2.1 HV.out.1 (Nat.le_refl _) hgrow, Nat.le_trans hbz hgrow.size⟩
            clear hown3 hgrow hown
            go_wp2
            go_roundw
            case rel => exact ⟨k + 1, by omega, by go_num, HV3.out⟩
            case measure => simp [intOf]; omega
        · obtain rfl : k = P.length := by omega
          rw [HLM.out] at HV
          obtain ⟨hown, hbel, hsz⟩ := HV.out
          obtain ⟨A, c, rfl, hw, hcp⟩ := own_fullC hown
          go_wp2
          go_ret
          exact ⟨A, c, rfl, hw, hcp, hbel⟩
end Go.Proofs.YtpgkellmhlmjeaaGreatDoor
namespace Go.Proofs.YtpgkellmhlmjeaaGreatDoor
open Go.RowKit Go.Sort Go.Maps Go.WideMaps
def ppX (s : Sd) : List Int := match pdR s with
  | some R => [s.1, s.2.1, s.2.2, ((headOf R).length : Int), ((cycOf R).length : Int)] ++ headOf R ++ cycOf R
  | none => []
def ppK (s : Sd) : Int := if (pdR s).isSome = true then 5 else 0
theorem ppX_none {s : Sd} (h : pdR s = none) : ppX s = [] := by simp [ppX, h]
theorem ppX_some {s : Sd} {R : List Sd × Nat} (h : pdR s = some R) : ppX s = [s.1, s.2.1, s.2.2, ((headOf R).length : Int), ((cycOf R).length : Int)] ++ headOf R ++ cycOf R := by simp [ppX, h]
theorem hc_len {L : List Sd} {i : Nat} (hi : i < L.length) : (headOf (L, i)).length = i ∧ (cycOf (L, i)).length = L.length - i := by
  have e1 : headOf (L, i) = (L.take i).map flS := rfl
  have e2 : cycOf (L, i) = (L.drop i).map flS := rfl
  rw [e1, e2, List.length_map, List.length_map, List.length_take, List.length_drop]
  omega
theorem size_any (A : Option Addr) (n c : Nat) (w : World) : Calls Tryz.prog 60 #[.slice A n c] w fun e w' => e = .returned (.int .i64 (n : Int)) ∧ w = w' := by
  go_enter Tryz.func60, Tryz.ntmps60
  go_wp2
  go_ret
  exact ⟨rfl, rfl⟩
set_option maxRecDepth 100000 in
set_option maxHeartbeats 4000000 in
theorem iProvePeriod_any (p d q : Int) (w : World) : Calls Tryz.prog 24 #[surdV p d q] w (RetCertC w (ppK (p, d, q)) (ppX (p, d, q)) (pdC (p, d, q))) := by
  have HP := Lib.hid (fun W : World => iPeriodOf_any p d q W)
  cases hR : pdR (p, d, q) with
  | none =>
    have e1 : ppK (p, d, q) = 0 := by simp [ppK, hR]
    have e2 := ppX_none hR
    have e3 := pdR_none hR
    rw [e1, e2]
    rw [hR] at HP
    clear e1 e2 hR
    have t0 : (pdC (p, d, q) != 0) = true := by simpa using e3
    clear e3
    generalize pdC (p, d, q) = cd at *
    unfold surdV at *
    go_enter Tryz.func24, Tryz.ntmps24
    go_wp2_with fail
    refine (HP.out _).mono ?_
    rintro e w1 ⟨A1, c1, A2, c2, rfl, g1, g2, _, hb1⟩
    have B2 : BoxV (w.heap.size + 1) [.int .i64 0, .slice none 0 0] w1 := by
      have h := (BoxV.new (w.alloc (.cells #[.int .i64 p, .int .i64 d, .int .i64 q] 46)) #[.int .i64 0, .slice none 0 0] 26).next hb1
      simpa using h
    have HB := Lib.hid (ext_trans (ext_alloc (ext1 w (.cells #[.int .i64 p, .int .i64 d, .int .i64 q] 46)) (.cells #[.int .i64 0, .slice none 0 0] 26)) hb1)
    have y0 := B2.at 0 _ rfl
    have y1 := B2.at 1 _ rfl
    have F0 := B2.f 0
    have F1 := B2.f 1
    obtain ⟨s0, s1⟩ := set_two y0 y1
    clear g1 g2 hb1
    go_wp2
    exact bodyPost_ret (v := .tuple #[certV 0 none 0 0, .int .i64 cd]) (by simp [results, Tryz.results24, go_sem, s0, s1]; done) rfl ⟨none, 0, rfl, fun h => absurd h (by simp), ⟨Nat.le_refl _, Nat.zero_le _⟩, ext_set (ext_set HB.out (by simp) _) (by simp) _⟩
  | some R =>
    obtain ⟨L, i⟩ := R
    obtain ⟨_, _, e3, h1, h2⟩ := pdR_facts hR
    have e1 : ppK (p, d, q) = 5 := by simp [ppK, hR]
    have hX := ppX_some hR
    have hll := hc_len h1
    rw [e1, e3]
    rw [hR, e3] at HP
    clear e1 e3 hR
    have HHD : Hid (hdR (some (L, i)) = headOf (L, i) ∧ cyR (some (L, i)) = cycOf (L, i)) := ⟨rfl, rfl⟩
    unfold RetPd at HP
    rw [HHD.out.1, HHD.out.2] at HP
    have hl1 : (headOf (L, i)).length ≤ 400 := by omega
    have hl2 : (cycOf (L, i)).length ≤ 400 := by omega
    clear hll h1 h2 HHD
    simp only at hX
    generalize headOf (L, i) = H at *
    generalize cycOf (L, i) = C at *
    generalize ppX (p, d, q) = X at *
    have HX := Lib.hid hX
    clear hX
    unfold surdV at *
    go_enter Tryz.func24, Tryz.ntmps24
    go_wp2_with fail
    refine (HP.out _).mono ?_
    rintro e w1 ⟨A1, c1, A2, c2, rfl, g1, g2, _, hb1⟩
    have B1 : BoxV w.heap.size [.int .i64 p, .int .i64 d, .int .i64 q] w1 := ((BoxV.new w #[.int .i64 p, .int .i64 d, .int .i64 q] 46).alloc _).next hb1
    have B2 : BoxV (w.heap.size + 1) [.int .i64 0, .slice none 0 0] w1 := by
      have h := (BoxV.new (w.alloc (.cells #[.int .i64 p, .int .i64 d, .int .i64 q] 46)) #[.int .i64 0, .slice none 0 0] 26).next hb1
      simpa using h
    have HB := Lib.hid (ext_trans (ext_alloc (ext1 w (.cells #[.int .i64 p, .int .i64 d, .int .i64 q] 46)) (.cells #[.int .i64 0, .slice none 0 0] 26)) hb1)
    have hs1 := B2.lt
    have G1 := Lib.hid g1
    have G2 := Lib.hid g2
    clear g1 g2 hb1
    have x0 := B1.at 0 _ rfl
    have x1 := B1.at 1 _ rfl
    have x2 := B1.at 2 _ rfl
    have HC := Lib.hid (fun (W : World) (hb : BoxV w.heap.size [.int .i64 p, .int .i64 d, .int .i64 q] W) => And.intro (hb.at 0 _ rfl) (And.intro (hb.at 1 _ rfl) (hb.at 2 _ rfl)))
    obtain ⟨PP, hPP⟩ : ∃ PP : List Part, PP = [(some ⟨w1.heap.size, 0, none⟩, 5, [p, d, q, (H.length : Int), (C.length : Int)]), (A1, c1, H), (A2, c2, C)] := ⟨_, rfl⟩
    have HPA : Hid (PartsAt ((w1.drew.alloc (.cells #[.int .i64 p, .int .i64 d, .int .i64 q, .int .i64 (H.length : Int), .int .i64 (C.length : Int)] 2)).alloc (.cells #[.slice (some ⟨w1.heap.size, 0, none⟩) 5 5, .slice A1 H.length c1, .slice A2 C.length c2] 24)) (w1.heap.size + 1) PP) := by
      subst hPP
      refine ⟨by simp, fun j t ht => ?_, fun t ht => ?_⟩
      · have hcell : ∀ j, ((w1.drew.alloc (.cells #[.int .i64 p, .int .i64 d, .int .i64 q, .int .i64 (H.length : Int), .int .i64 (C.length : Int)] 2)).alloc (.cells #[.slice (some ⟨w1.heap.size, 0, none⟩) 5 5, .slice A1 H.length c1, .slice A2 C.length c2] 24)).cell? ⟨w1.heap.size + 1, j, none⟩ = (#[.slice (some ⟨w1.heap.size, 0, none⟩) 5 5, .slice A1 H.length c1, .slice A2 C.length c2] : Array Value)[j]? := fun j => cell_two_snd w1.drew _ _ _ _ j
        rw [hcell]
        match j, ht with
        | 0, ht => simp at ht; subst ht; rfl
        | 1, ht => simp at ht; subst ht; rfl
        | 2, ht => simp at ht; subst ht; rfl
        | j + 3, ht => simp at ht
      · have hbb : Below w1.heap.size w1 ((w1.drew.alloc (.cells #[.int .i64 p, .int .i64 d, .int .i64 q, .int .i64 (H.length : Int), .int .i64 (C.length : Int)] 2)).alloc (.cells #[.slice (some ⟨w1.heap.size, 0, none⟩) 5 5, .slice A1 H.length c1, .slice A2 C.length c2] 24)) := ext_alloc (ext_alloc (ext_drew (Below.refl _ _)) _) _
        simp only [List.mem_cons, List.not_mem_nil, or_false] at ht
        rcases ht with rfl | rfl | rfl
        · intro _
          refine ⟨w1.heap.size, 0, rfl, by simp; omega, fun j x hx => ?_⟩
          have hc : ((w1.drew.alloc (.cells #[.int .i64 p, .int .i64 d, .int .i64 q, .int .i64 (H.length : Int), .int .i64 (C.length : Int)] 2)).alloc (.cells #[.slice (some ⟨w1.heap.size, 0, none⟩) 5 5, .slice A1 H.length c1, .slice A2 C.length c2] 24)).cell? ⟨w1.heap.size, j, none⟩ = (#[.int .i64 p, .int .i64 d, .int .i64 q, .int .i64 (H.length : Int), .int .i64 (C.length : Int)] : Array Value)[j]? := cell_two_fst w1.drew _ _ _ _ j
          rw [Nat.zero_add, hc]
          match j, hx with
          | 0, hx => simp at hx; subst hx; rfl
          | 1, hx => simp at hx; subst hx; rfl
          | 2, hx => simp at hx; subst hx; rfl
          | 3, hx => simp at hx; subst hx; rfl
          | 4, hx => simp at hx; subst hx; rfl
          | j + 5, hx => simp at hx
        · exact ((G1.out.below hbb).rd)
        · exact ((G2.out.below hbb).rd)
    have HCat : Hid (catL PP = X ∧ PP.length = 3) := by
      subst hPP
      refine ⟨?_, rfl⟩
      rw [HX.out]
      simp [catL]
    have HLX : X.length ≤ 1000 := by rw [HX.out]; simp; omega
    have HCC : Hid (Calls Tryz.prog 58 #[.slice (some ⟨w1.heap.size + 1, 0, none⟩) 3 3] ((w1.drew.alloc (.cells #[.int .i64 p, .int .i64 d, .int .i64 q, .int .i64 (H.length : Int), .int .i64 (C.length : Int)] 2)).alloc (.cells #[.slice (some ⟨w1.heap.size, 0, none⟩) 5 5, .slice A1 H.length c1, .slice A2 C.length c2] 24)) (RetCap ((w1.drew.alloc (.cells #[.int .i64 p, .int .i64 d, .int .i64 q, .int .i64 (H.length : Int), .int .i64 (C.length : Int)] 2)).alloc (.cells #[.slice (some ⟨w1.heap.size, 0, none⟩) 5 5, .slice A1 H.length c1, .slice A2 C.length c2] 24)) X)) := by
      have h := concat_cap (w1.heap.size + 1) 3 PP _ HPA.out (by rw [HCat.out.2]; omega) (by rw [HCat.out.1]; omega)
      rw [HCat.out.1, HCat.out.2] at h
      exact h
    clear HPA HCat hPP HX G1 G2
    go_wp2_with fail
    go_region_held3 (fun w' => w'.cell? ⟨w.heap.size, 0, none⟩ = some (.int .i64 p) ∧ w'.cell? ⟨w.heap.size, 1, none⟩ = some (.int .i64 d) ∧ w'.cell? ⟨w.heap.size, 2, none⟩ = some (.int .i64 q))
      (first | exact HC.out _ B1.drew | exact HC.out _ (B1.drew.alloc _) | exact HC.out _ ((B1.drew.alloc _).alloc _) | exact HC.out _ ((((B1.drew.alloc _).alloc _)).next hb4) | exact HC.out _ ((((((B1.drew.alloc _).alloc _)).next hb4).setFar _ (by omega)).setFar _ (by omega)))
      (first | (go_at_call 60; (with_reducible refine (size_any _ _ _ _).mono ?_); rintro e w' ⟨rfl, rfl⟩) | (go_at_call 58; refine HCC.out.mono ?_; rintro e w4 ⟨A4, c4, rfl, hw4, hcp4, hb4⟩; have B5 := ((B2.drew.alloc _).alloc _).next hb4; have y0 := B5.at 0 _ rfl; have y1 := B5.at 1 _ rfl; have F0 := B5.f 0; have F1 := B5.f 1))
    all_goals
      obtain ⟨s0, s1⟩ := set_two y0 y1
      have HBB := Lib.hid (ext_trans (ext_alloc (ext_alloc (ext_drew HB.out) _) _) hb4)
      have HW4 := Lib.hid (hw4.more (show w.heap.size + 2 ≤ _ by simp; omega))
      go_wp2
      exact bodyPost_ret (v := .tuple #[certV 5 A4 X.length c4, .int .i64 0]) (by simp [results, Tryz.results24, go_sem, s0, s1]; done) rfl ⟨A4, c4, rfl, ((HW4.out.setLow (by simp) _).setLow (by simp) _).more (by omega), hcp4, ext_set (ext_set HBB.out (by simp) _) (by simp) _⟩
theorem ppX_some' {s : Sd} {L : List Sd} {i : Nat} (h : pdR s = some (L, i)) : ppX s = [s.1, s.2.1, s.2.2, (i : Int), (L.length : Int) - (i : Int)] ++ L.map flS := by
  obtain ⟨_, _, _, h1, _⟩ := pdR_facts h
  obtain ⟨g1, g2⟩ := hc_len h1
  rw [ppX_some h, g1, g2, List.append_assoc]
  have e : headOf (L, i) ++ cycOf (L, i) = L.map flS := by
    show (L.take i).map flS ++ (L.drop i).map flS = L.map flS
    rw [← List.map_append, List.take_append_drop]
  rw [e, show ((L.length - i : Nat) : Int) = (L.length : Int) - (i : Int) by omega]
end Go.Proofs.YtpgkellmhlmjeaaGreatDoor
namespace Go.Proofs.YtpgkellmhlmjeaaGreatDoor
open Go.RowKit Go.Sort Go.Maps Go.WideMaps
noncomputable def puX (d : Int) : List Int := if utC d = 0 then (match unR d with | some p => [d, p.1, p.2] ++ (rtI d :: asL d (pdN d - 1)) | none => []) else []
noncomputable def puK (d : Int) : Int := if utC d = 0 then 4 else 0
theorem puX_bad {d : Int} (h : ¬ utC d = 0) : puX d = [] ∧ puK d = 0 := by simp [puX, puK, h]
theorem puX_good {d x y : Int} (h : utC d = 0) (h2 : unR d = some (x, y)) : puX d = [d, x, y] ++ (rtI d :: asL d (pdN d - 1)) ∧ puK d = 4 := by simp [puX, puK, h, h2]
set_option maxHeartbeats 1000000 in
theorem iProveUnit_bad (d : Int) (w : World) (h : ¬ utC d = 0) : Calls Tryz.prog 23 #[.int .i64 d] w (RetCertC w (puK d) (puX d) (utC d)) := by
  obtain ⟨e1, e2⟩ := puX_bad h
  rw [e1, e2]
  have HU := Lib.hid (fun W : World => utI_any d W)
  have t0 : (utC d != 0) = true := by simpa using h
  clear e1 e2 h
  generalize utC d = cd at *
  go_enter Tryz.func23, Tryz.ntmps23
  go_wp2_with fail
  refine (HU.out _).mono ?_
  rintro e w1 ⟨P0, P1, N, rfl, _, hb1⟩
  have B2 : BoxV w.heap.size [.int .i64 0, .slice none 0 0] (w1.alloc (.cells #[.int .i64 P0, .int .i64 P1] 34)) := ((BoxV.new w #[.int .i64 0, .slice none 0 0] 26).next hb1).alloc _
  have HB := Lib.hid (ext_alloc (ext_trans (ext1 w (.cells #[.int .i64 0, .slice none 0 0] 26)) hb1) (.cells #[.int .i64 P0, .int .i64 P1] 34))
  have y0 := B2.at 0 _ rfl
  have y1 := B2.at 1 _ rfl
  have F0 := B2.f 0
  have F1 := B2.f 1
  obtain ⟨s0, s1⟩ := set_two y0 y1
  clear hb1
  go_wp2
  exact bodyPost_ret (v := .tuple #[certV 0 none 0 0, .int .i64 cd]) (by simp [results, Tryz.results23, go_sem, s0, s1]; done) rfl ⟨none, 0, rfl, fun h => absurd h (by simp), ⟨Nat.le_refl _, Nat.zero_le _⟩, ext_set (ext_set HB.out (by simp) _) (by simp) _⟩
set_option maxRecDepth 100000 in
set_option maxHeartbeats 4000000 in
theorem iProveUnit_good (d x y : Int) (w : World) (h0 : utC d = 0) (hu : unR d = some (x, y)) : Calls Tryz.prog 23 #[.int .i64 d] w (RetCertC w (puK d) (puX d) (utC d)) := by
  have HU := Lib.hid (fun W : World => utI_any d W)
  rw [h0] at HU ⊢
  obtain ⟨hX, hK⟩ := puX_good h0 hu
  obtain ⟨h1, h2, h3⟩ := pcC_zero (utC_zero h0).1
  obtain ⟨n1, n2, _⟩ := pdN_spec h1 h2 h3
  have HR := Lib.hid (fun W : World => rootPeriod_any d W h1 h2 h3)
  obtain ⟨m, hm⟩ : ∃ m, pdN d = m + 1 := ⟨pdN d - 1, by omega⟩
  rw [hu] at HU
  rw [hK]
  rw [hm] at hX HR
  simp only [Nat.add_sub_cancel] at hX
  have hlm : (asL d m).length = m := asL_length d m
  have hsub : Hid (∀ (j : Nat) (t : Int), (asL d m)[j]? = some t → (asL d (m + 1))[j]? = some t) := fun j t ht => by
    have hj : j < m := by have := (List.getElem?_eq_some_iff.1 ht).1; omega
    rw [asL_get (by omega)] at ht
    rw [asL_get (by omega)]
    exact ht
  have hm2 : m ≤ 397 := by omega
  have hl1 : (asL d (m + 1)).length = m + 1 := asL_length d (m + 1)
  have HX := Lib.hid hX
  clear hX hK h0 hu h1 h2 h3 n1 n2 hm
  generalize puX d = X at *
  generalize asL d m = M at *
  generalize asL d (m + 1) = C at *
  generalize rtI d = r at *
  go_enter Tryz.func23, Tryz.ntmps23
  go_wp2_with fail
  refine (HU.out _).mono ?_
  rintro e w1 ⟨P0, P1, N, rfl, hP, hb1⟩
  obtain ⟨rfl, rfl⟩ : P0 = x ∧ P1 = y := by have h := hP rfl; injection h with h; injection h with h1 h2; exact ⟨h1.symm, h2.symm⟩
  have B1 : BoxV w1.heap.size [.int .i64 P0, .int .i64 P1] (w1.alloc (.cells #[.int .i64 P0, .int .i64 P1] 34)) := BoxV.new w1 #[.int .i64 P0, .int .i64 P1] 34
  have B2 : BoxV w.heap.size [.int .i64 0, .slice none 0 0] (w1.alloc (.cells #[.int .i64 P0, .int .i64 P1] 34)) := ((BoxV.new w #[.int .i64 0, .slice none 0 0] 26).next hb1).alloc _
  have HB := Lib.hid (ext_alloc (ext_trans (ext1 w (.cells #[.int .i64 0, .slice none 0 0] 26)) hb1) (.cells #[.int .i64 P0, .int .i64 P1] 34))
  have hw1 : w.heap.size < w1.heap.size := ((BoxV.new w #[.int .i64 0, .slice none 0 0] 26).next hb1).lt
  clear hb1 hP
  go_wp2_with fail
  generalize w1.alloc (.cells #[.int .i64 P0, .int .i64 P1] 34) = W1 at *
  generalize w1.heap.size = g1 at *
  refine (HR.out _).mono ?_
  rintro e w2 ⟨A, c, rfl, g2, ⟨cp1, cp2⟩, hb2⟩
  unfold maxLen at cp2
  obtain ⟨b, off, rfl, _, hbl, hc, _⟩ := g2 (by omega)
  have HC := Lib.hid hc
  have C1 := Lib.hid (B1.next hb2)
  have C2 := Lib.hid (B2.next hb2)
  have HB2 := Lib.hid (ext_trans HB.out hb2)
  have hg2 : g1 < w2.heap.size := (B1.next hb2).lt
  clear hc g2 B1 B2 HB hb2
  have x0 := C1.out.at 0 _ rfl
  have x1 := C1.out.at 1 _ rfl
  have k1 : IntKind.i64.wrap (((m + 1 : Nat) : Int) - 1) = (m : Int) := by rw [IntWalk.i64_in _ (by omega)]; omega
  have k2 : IntKind.i64.wrap ((m : Int) + 1 - 1) = (m : Int) := by rw [IntWalk.i64_in _ (by omega)]; omega
  have k3 : (0 : Int) ≤ (m : Int) := by omega
  have k5 : IntKind.i64.wrap (m : Int) = (m : Int) := IntWalk.i64_in _ (by omega)
  have k6 : m ≤ c := by omega
  have k7 : ¬ (m : Int) < 0 := by omega
  have k8 : ¬ (c : Int) < (m : Int) := by omega
  have k4 : (m : Int) ≤ (c : Int) := by omega
  have HCC : Hid (Calls Tryz.prog 58 #[.slice (some ⟨w2.heap.size + 1, 0, none⟩) 2 2] ((w2.drew.alloc (.cells #[.int .i64 d, .int .i64 P0, .int .i64 P1, .int .i64 r] 2)).alloc (.cells #[.slice (some ⟨w2.heap.size, 0, none⟩) 4 4, .slice (some ⟨b, off, none⟩) m c] 24)) (RetCap ((w2.drew.alloc (.cells #[.int .i64 d, .int .i64 P0, .int .i64 P1, .int .i64 r] 2)).alloc (.cells #[.slice (some ⟨w2.heap.size, 0, none⟩) 4 4, .slice (some ⟨b, off, none⟩) m c] 24)) X)) := by
    have hPA : PartsAt ((w2.drew.alloc (.cells #[.int .i64 d, .int .i64 P0, .int .i64 P1, .int .i64 r] 2)).alloc (.cells #[.slice (some ⟨w2.heap.size, 0, none⟩) 4 4, .slice (some ⟨b, off, none⟩) m c] 24)) (w2.heap.size + 1) [(some ⟨w2.heap.size, 0, none⟩, 4, [d, P0, P1, r]), (some ⟨b, off, none⟩, c, M)] := by
      refine ⟨by simp, fun j t ht => ?_, fun t ht => ?_⟩
      · have hcell : ∀ j, ((w2.drew.alloc (.cells #[.int .i64 d, .int .i64 P0, .int .i64 P1, .int .i64 r] 2)).alloc (.cells #[.slice (some ⟨w2.heap.size, 0, none⟩) 4 4, .slice (some ⟨b, off, none⟩) m c] 24)).cell? ⟨w2.heap.size + 1, j, none⟩ = (#[.slice (some ⟨w2.heap.size, 0, none⟩) 4 4, .slice (some ⟨b, off, none⟩) m c] : Array Value)[j]? := fun j => cell_two_snd w2.drew _ _ _ _ j
        rw [hcell]
        match j, ht with
        | 0, ht => simp at ht; subst ht; rfl
        | 1, ht => simp at ht; subst ht; rw [hlm]; rfl
        | j + 2, ht => simp at ht
      · have hbb : Below w2.heap.size w2 ((w2.drew.alloc (.cells #[.int .i64 d, .int .i64 P0, .int .i64 P1, .int .i64 r] 2)).alloc (.cells #[.slice (some ⟨w2.heap.size, 0, none⟩) 4 4, .slice (some ⟨b, off, none⟩) m c] 24)) := ext_alloc (ext_alloc (ext_drew (Below.refl _ _)) _) _
        simp only [List.mem_cons, List.not_mem_nil, or_false] at ht
        rcases ht with rfl | rfl
        · intro _
          refine ⟨w2.heap.size, 0, rfl, by simp; omega, fun j x hx => ?_⟩
          have hc : ((w2.drew.alloc (.cells #[.int .i64 d, .int .i64 P0, .int .i64 P1, .int .i64 r] 2)).alloc (.cells #[.slice (some ⟨w2.heap.size, 0, none⟩) 4 4, .slice (some ⟨b, off, none⟩) m c] 24)).cell? ⟨w2.heap.size, j, none⟩ = (#[.int .i64 d, .int .i64 P0, .int .i64 P1, .int .i64 r] : Array Value)[j]? := cell_two_fst w2.drew _ _ _ _ j
          rw [Nat.zero_add, hc]
          match j, hx with
          | 0, hx => simp at hx; subst hx; rfl
          | 1, hx => simp at hx; subst hx; rfl
          | 2, hx => simp at hx; subst hx; rfl
          | 3, hx => simp at hx; subst hx; rfl
          | j + 4, hx => simp at hx
        · intro _
          exact ⟨b, off, rfl, by simp; omega, fun j x hx => (hbb.cell (p := ⟨b, off + j, none⟩) hbl).trans (HC.out j x (hsub.out j x hx))⟩
    have h := concat_cap (w2.heap.size + 1) 2 _ _ hPA (by simp) (by simp [catL]; omega)
    have e : catL [((some ⟨w2.heap.size, 0, none⟩ : Option Addr), 4, [d, P0, P1, r]), (some ⟨b, off, none⟩, c, M)] = X := by rw [HX.out]; simp [catL]
    rw [e] at h
    exact h
  have HLX : X.length ≤ 402 := by rw [HX.out]; simp; omega
  have HH := Lib.hid (fun (W : World) (hb : BoxV g1 [.int .i64 P0, .int .i64 P1] W) => And.intro (hb.at 0 _ rfl) (hb.at 1 _ rfl))
  clear HC HX hsub
  go_wp2_with fail
  have hc1 := C1.out
  go_region_held3 (fun w' => w'.cell? ⟨g1, 0, none⟩ = some (.int .i64 P0) ∧ w'.cell? ⟨g1, 1, none⟩ = some (.int .i64 P1))
    (first | exact HH.out _ hc1.drew | exact HH.out _ (hc1.drew.alloc _) | exact HH.out _ ((hc1.drew.alloc _).alloc _) | exact HH.out _ ((((hc1.drew.alloc _).alloc _)).next hb4) | exact HH.out _ ((((((hc1.drew.alloc _).alloc _)).next hb4).setFar _ (by omega)).setFar _ (by omega)))
    (first | (go_at_call 58; refine HCC.out.mono ?_; rintro e w4 ⟨A4, c4, rfl, hw4, hcp4, hb4⟩; have B5 := ((C2.out.drew.alloc _).alloc _).next hb4; have y0 := B5.at 0 _ rfl; have y1 := B5.at 1 _ rfl; have F0 := B5.f 0; have F1 := B5.f 1))
  all_goals
    obtain ⟨s0, s1⟩ := set_two y0 y1
    have HBB := Lib.hid (ext_trans (ext_alloc (ext_alloc (ext_drew HB2.out) _) _) hb4)
    have HW4 := Lib.hid (hw4.more (show w2.heap.size ≤ _ by simp; omega))
    go_wp2
    exact bodyPost_ret (v := .tuple #[certV 4 A4 X.length c4, .int .i64 0]) (by simp [results, Tryz.results23, go_sem, s0, s1]; done) rfl ⟨A4, c4, rfl, ((HW4.out.setLow (by simp <;> omega) _).setLow (by simp <;> omega) _).more (by omega), hcp4, ext_set (ext_set HBB.out (by simp) _) (by simp) _⟩
theorem iProveUnit_any (d : Int) (w : World) : Calls Tryz.prog 23 #[.int .i64 d] w (RetCertC w (puK d) (puX d) (utC d)) := by
  by_cases h : utC d = 0
  · obtain ⟨p, hp⟩ := (utC_zero h).2
    exact iProveUnit_good d p.1 p.2 w h hp
  · exact iProveUnit_bad d w h
end Go.Proofs.YtpgkellmhlmjeaaGreatDoor
