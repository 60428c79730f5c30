/- Parts of the proof, merged: ConcatW ProvePW PackNW PackP. No condition but those that each theorem names. -/
import Derived.Test.YtpnabggpdgjbmaaGreatDoorMgAC
import Derived.Lib.AppendZerosOnto
import Derived.Lib.AppendZeros
import Derived.Test.YtpnabggpdgjbmaaGreatDoorMgAE
import Derived.Deep.RegionHeld3
import Derived.IntWalk
import Derived.Test.YtpnabggpdgjbmaaGreatDoorMgAB
import Derived.DeepKeys4
import Derived.Maps.OwnSet
import Derived.Maps.Views
import Derived.Carry
import Derived.Test.YtpnabggpdgjbmaaGreatDoorMgAK
import Derived.Deep.RegionLaw
import Derived.Test.YtpnabggpdgjbmaaGreatDoorMgAL
import Derived.Lib.AppendStr
namespace Go.Proofs.YtpnabggpdgjbmaaGreatDoor
open Go.RowKit Go.Sort
theorem own_room {w : World} {base : Nat} {e : TypeId} {size n : Nat} {v : Value} {xs : List Value} (h : w.ownsRow base e size v n xs) : ∃ B cp, v = .slice B n cp ∧ n ≤ cp := by
  rcases h.2 with ⟨rfl, rfl⟩ | ⟨g, cap, cur, rfl, _, _, hc, _⟩
  · exact ⟨_, _, rfl, Nat.le_refl _⟩
  · exact ⟨_, _, rfl, hc⟩
theorem run_append_empty (B : Option Addr) (n cp : Nat) (A : Option Addr) (d : Nat) (ty : TypeId) (w : World) (h : n ≤ cp) :
    (Builtin.append_ #[27, 27] ty #[.slice B n cp, .slice A 0 d]).run Tryz.prog w = .ok (.slice B n cp) w := by
  obtain ⟨i0, hi, hz0, hz1, hz2⟩ := info_parts info64
  have ht := Tryz.underlying27
  cases B <;> cases A <;> simp [Builtin.append_, run_underlying ht, sizeOf, typeInfo, hi, Builtin.lenOf, h, Builtin.firstCells, loadCells, loadCellsFrom, storeCells]
set_option maxRecDepth 100000 in
theorem growNil_any (n : Nat) (w : World) (hn : n ≤ 1000000000) :
    Calls Tryz.prog 142 #[.slice none 0 0, .int .i64 (n : Int)] w fun e w' => ∃ v, e = .returned v ∧ w'.ownsRow w.heap.size 2 1 v 0 [] ∧ Below w.heap.size w w' := by
  obtain ⟨i0, hi, hz0, hz1, hz2⟩ := info_parts info64
  rcases Nat.eq_zero_or_pos n with h0 | h0
  · subst h0
    go_enter Tryz.func142, Tryz.ntmps142
    go_wp2
    go_ret
    exact ⟨_, rfl, own_nil, Below.refl _ _⟩
  · have hrz : ∀ ty, (Builtin.append_ #[27, 3] ty #[.slice none 0 0, .int .i64 (n : Int)]).run Tryz.prog w =
        .ok (.slice (some ⟨w.heap.size, 0, none⟩) (0 + n) (grownCap w (0 + n) 0 2)) (w.drew.alloc (.cells ((#[] : Array Value) ++ Builtin.zeroCells (Value.int .i64 0).cells n ++ Builtin.zeroCells (Value.int .i64 0).cells (grownCap w (0 + n) 0 2 - (0 + n))) 2)) := fun ty =>
      Lib.run_append_grow_zeros w 27 3 ty 2 i0 (.int .i64 0) .i64 .i64 Tryz.underlying27 Tryz.underlying3 hi hz0 none 0 0 [] (run_firstCells_none w.drew i0.size 0 0 0) n h0 (by omega) (by omega) (by omega) (by rw [hz2]; omega) (growslice_fits (by omega) (by rw [hz2]; omega))
    have hge := grownCap_ge w (0 + n) 0 2
    have hcm := grownCap_le_maxLen w (0 + n) 0 2 (by unfold maxLen; omega)
    generalize hG : grownCap w (0 + n) 0 2 = G at *
    clear hG
    have hsz : ((#[] : Array Value) ++ Builtin.zeroCells (Value.int .i64 0).cells n ++ Builtin.zeroCells (Value.int .i64 0).cells (G - (0 + n))).size = G * 1 := by
      simp [size_zeroCells, Value.cells]
      omega
    have hown := World.ownsRow_made (base := w.heap.size) (e := 2) (size := 1) w.drew _ G (Nat.le_refl _) hcm hsz
    have HO := Lib.hid hown
    have HB := Lib.hid (ext_alloc (ext_drew (Below.refl w.heap.size w)) (.cells ((#[] : Array Value) ++ Builtin.zeroCells (Value.int .i64 0).cells n ++ Builtin.zeroCells (Value.int .i64 0).cells (G - (0 + n))) 2))
    have HRZ := Lib.hid hrz
    unfold maxLen at hcm
    clear hown hsz hrz hi hz0 hz1 hz2
    have hnG : n ≤ G := by omega
    generalize w.drew.alloc (.cells ((#[] : Array Value) ++ Builtin.zeroCells (Value.int .i64 0).cells n ++ Builtin.zeroCells (Value.int .i64 0).cells (G - (0 + n))) 2) = W at *
    have hp : 0 < (n : Int) := by omega
    go_enter Tryz.func142, Tryz.ntmps142
    go_wp2_with (at_builtin; refine Lib.wpList_append_run _ rfl _ _ _ _ rfl _ _ rfl rfl _ _ (HRZ.out _) ?_)
    go_ret
    exact ⟨_, rfl, HO.out, HB.out⟩
/-- A slice of slices of integers: their addresses, capacities, elements. -/
abbrev Part := Option Addr × Nat × List Int
def catL (P : List Part) : List Int := P.flatMap fun t => t.2.2
def PartsAt (w : World) (b : Nat) (P : List Part) : Prop := b < w.heap.size ∧ (∀ j t, P[j]? = some t → w.cell? ⟨b, j, none⟩ = some (.slice t.1 t.2.2.length t.2.1)) ∧ ∀ t ∈ P, Rd (Value.int .i64) w w.heap.size t.1 t.2.2
theorem PartsAt.next {w w' : World} {b : Nat} {P : List Part} (h : PartsAt w b P) (hb : Below w.heap.size w w') : PartsAt w' b P :=
  ⟨Nat.lt_of_lt_of_le h.1 hb.size, fun j t ht => (hb.cell (p := ⟨b, j, none⟩) h.1).trans (h.2.1 j t ht), fun t ht => ((h.2.2 t ht).below hb).more hb.size⟩
theorem catL_step {P : List Part} {k : Nat} {t : Part} (h : P[k]? = some t) : catL (P.take (k + 1)) = catL (P.take k) ++ t.2.2 := by
  unfold catL
  rw [List.take_add_one, h]
  simp
theorem catL_le (P : List Part) (k : Nat) : (catL (P.take k)).length ≤ (catL P).length := by
  have : catL P = catL (P.take k) ++ catL (P.drop k) := by
    unfold catL
    rw [← List.flatMap_append, List.take_append_drop]
  rw [this, List.length_append]
  omega
set_option maxRecDepth 100000 in
set_option maxHeartbeats 1000000 in
theorem concat_any (b c : Nat) (P : List Part) (w : World) (hP : PartsAt w b P) (hl : P.length ≤ 1000) (hc : (catL P).length ≤ 1000000000) :
    Calls Tryz.prog 102 #[.slice (some ⟨b, 0, none⟩) P.length c] w (RetList w (catL P)) := by
  obtain ⟨i0, hi, hz0, hz1, hz2⟩ := info_parts info64
  have HI := Lib.hid hi
  clear hi
  have HPP := Lib.hid hP
  clear hP
  have HLE := Lib.hid (catL_le P)
  go_enter Tryz.func102, Tryz.ntmps102
  go_wp2_with fail
  go_loop [11, 3] (fun t s => ∃ k : Nat, k ≤ P.length ∧ t = .int .i64 k ∧ s = .int .i64 ((catL (P.take k)).length : Int)) (fun t _ => P.length - (intOf t).toNat)
  case atStart => exact ⟨0, by omega, rfl, rfl⟩
  case round =>
    obtain ⟨k, hk, rfl, rfl⟩ := hrel
    by_cases hlt : k < P.length
    · obtain ⟨⟨A, d, xs⟩, htk⟩ : ∃ x, P[k]? = some x := ⟨_, List.getElem?_eq_getElem hlt⟩
      have c0 := HPP.out.2.1 k _ htk
      have HS := Lib.hid (congrArg List.length (catL_step htk))
      have h1 := HLE.out (k + 1)
      rw [HS.out] at h1
      simp only [List.length_append] at h1
      have HS2 : Hid ((catL (P.take (k + 1))).length = (catL (P.take k)).length + xs.length) := by
        have := HS.out
        rw [List.length_append] at this
        exact this
      have i0' : (0 : Int) ≤ (k : Int) := by omega
      have i1 : (k : Int) < (P.length : Int) := by omega
      clear htk HS
      generalize (catL (P.take k)).length = m at *
      simp only at c0
      go_wp2
      go_round
      case rel => exact ⟨k + 1, by omega, by go_num, by rw [HS2.out]; go_num⟩
      case measure => simp [intOf]; omega
    · obtain rfl : k = P.length := by omega
      rw [List.take_of_length_le (Nat.le_refl _)]
      have HG := Lib.hid (fun W : World => growNil_any (catL P).length W hc)
      have hcc : (catL P).length ≤ 1000000000 := hc
      generalize hM : catL P = M at *
      have HMM := Lib.hid hM
      clear hM
      have HLM : Hid (catL (P.take P.length) = M) := by unfold Hid; rw [List.take_of_length_le (Nat.le_refl _)]; exact HMM.out
      go_wp2_with fail
      refine (HG.out _).mono ?_
      rintro e w1 ⟨v, rfl, hown1, hb1⟩
      have HV0 : Hid (OutI w w.heap.size [] v w1) := ⟨hown1, hb1, hb1.size⟩
      clear hown1 hb1
      go_wp2_with fail
      go_loopw [27, 6] (fun t v wr => ∃ (k : Nat), k ≤ P.length ∧ t = .int .i64 k ∧ Hid (OutI w w.heap.size (catL (P.take k)) v wr)) (fun t _ _ => P.length - (intOf t).toNat)
      case atStart => exact ⟨0, by omega, rfl, HV0.out⟩
      case round =>
        obtain ⟨k, hk, rfl, HV⟩ := hrel
        clear HV0
        by_cases hlt : k < P.length
        · obtain ⟨⟨A, d, xs⟩, htk⟩ : ∃ x, P[k]? = some x := ⟨_, List.getElem?_eq_getElem hlt⟩
          have hPw := HPP.out.next HV.out.2.1
          have c0 := hPw.2.1 k _ htk
          have hrd := hPw.2.2 _ (List.mem_of_getElem? htk)
          have HS := Lib.hid (catL_step htk)
          have h1 := HLE.out (k + 1)
          rw [HS.out] at h1
          simp only [List.length_append] at h1
          have i0' : (0 : Int) ≤ (k : Int) := by omega
          have i1 : (k : Int) < (P.length : Int) := by omega
          clear htk hPw
          simp only at c0 hrd HS
          generalize hXX : catL (P.take k) = X at *
          clear hXX
          rcases Nat.eq_zero_or_pos xs.length with h0 | h0
          · have hxe : xs = [] := List.eq_nil_of_length_eq_zero h0
            subst hxe
            obtain ⟨B, cp, e1, hcp⟩ := own_room HV.out.1
            subst e1
            have HRE := Lib.hid (fun ty => run_append_empty B X.length cp A d ty wr hcp)
            have HN : Hid (catL (P.take (k + 1)) = X) := by unfold Hid; rw [HS.out]; simp
            simp only [List.length_nil] at c0
            go_wp2_with (at_builtin; refine Lib.wpList_append_run _ rfl _ _ _ _ rfl _ _ rfl rfl _ _ (HRE.out _) ?_)
            go_roundw
            case rel => exact ⟨k + 1, by omega, by go_num, by rw [HN.out]; exact HV.out⟩
            case measure => simp [intOf]; omega
          · obtain ⟨b', off, rfl, hb', hcc'⟩ := hrd h0
            have HC := Lib.hid hcc'
            have hown := HV.out.1
            have hbz := HV.out.2.2
            clear hcc' hrd
            go_wp2_with (at_builtin; refine wpList_append_own _ rfl _ _ 27 rfl w.heap.size 2 i0 (.int .i64 0) 1 8 Tryz.underlying27 HI.out hz0 hz1 hz2 rfl (by decide) _ _ _ rfl hown ⟨b', off, none⟩ xs.length d (xs.map (Value.int .i64)) rfl (by simp) ?c1 ?c2 ?c3 ?c4 ?c5 ?_)
            case c1 =>
              intro j u hu
              rw [List.getElem?_map] at hu
              cases hx : xs[j]? with
              | none => rw [hx] at hu; cases hu
              | some x =>
                rw [hx] at hu
                obtain rfl := Option.some.inj hu
                have hcx := HC.out j x hx
                have ea : (⟨b', off, none⟩ : Addr).add j = ⟨b', off + j, none⟩ := by simp [Addr.add]
                rw [ea]
                exact hcx
            case c2 => intro u hu; obtain ⟨x, _, rfl⟩ := List.mem_map.1 hu; rfl
            case c3 => unfold maxLen; omega
            case c4 => omega
            case c5 => exact hbz
            intro v' w3 hown3 hgrow _
            have HV3 : Hid (OutI w w.heap.size (catL (P.take (k + 1))) v' w3) := by
              unfold Hid
              rw [HS.out]
              refine ⟨by simpa using hown3, below_grown HV.out.2.1 HV.out.1 (Nat.le_refl _) hgrow, Nat.le_trans hbz hgrow.size⟩
            clear hown3 hgrow hown
            go_wp2
            go_roundw
            case rel => exact ⟨k + 1, by omega, by go_num, HV3.out⟩
            case measure => simp [intOf]; omega
        · obtain rfl : k = P.length := by omega
          rw [HLM.out] at HV
          obtain ⟨hown, hbel, hsz⟩ := HV.out
          obtain ⟨hn, A, c, rfl, hw⟩ := Wr.of_own hown
          go_wp2
          go_ret
          exact ⟨A, c, rfl, hw, hbel⟩
end Go.Proofs.YtpnabggpdgjbmaaGreatDoor
namespace Go.Proofs.YtpnabggpdgjbmaaGreatDoor
open Go.RowKit Go.Sort Go.Maps Go.WideMaps
theorem size_any (A : Option Addr) (n c : Nat) (w : World) : Calls Tryz.prog 103 #[.slice A n c] w fun e w' => e = .returned (.int .i64 (n : Int)) ∧ w = w' := by
  go_enter Tryz.func103, Tryz.ntmps103
  go_wp2
  go_ret
  exact ⟨rfl, rfl⟩
end Go.Proofs.YtpnabggpdgjbmaaGreatDoor
namespace Go.Proofs.YtpnabggpdgjbmaaGreatDoor
open Go.RowKit Go.Sort Go.Maps Go.WideMaps
/-- The numbers of a note, by its kind. -/
def nuL (x : Nt) : List Int := if x.kind = 1 then [x.num, x.den] else if x.kind = 2 then (x.terms.length : Int) :: x.terms else [x.sp, x.sd, x.sq]
set_option maxRecDepth 100000 in
set_option maxHeartbeats 4000000 in
theorem numbersOf_any (x : Nt) (T : Option Addr) (c : Nat) (w : World) (hr : Rd (Value.int .i64) w w.heap.size T x.terms) (hl : x.terms.length ≤ 1000000) :
    Calls Tryz.prog 57 #[ntV x.name x.kind x.num x.den T x.terms.length c x.sp x.sd x.sq] w (RetList w (nuL x)) := by
  obtain ⟨nm, kd, num, den, ts, sp, sd, sq⟩ := x
  simp only at hr hl ⊢
  have hnu : nuL ⟨nm, kd, num, den, ts, sp, sd, sq⟩ = if kd = 1 then [num, den] else if kd = 2 then (ts.length : Int) :: ts else [sp, sd, sq] := rfl
  rw [hnu]
  clear hnu
  have B1 : BoxV w.heap.size [.string nm, .int .i64 kd, .int .i64 num, .int .i64 den, .slice T ts.length c, .int .i64 sp, .int .i64 sd, .int .i64 sq] (w.alloc (.cells #[.string nm, .int .i64 kd, .int .i64 num, .int .i64 den, .slice T ts.length c, .int .i64 sp, .int .i64 sd, .int .i64 sq] 31)) := BoxV.new w #[.string nm, .int .i64 kd, .int .i64 num, .int .i64 den, .slice T ts.length c, .int .i64 sp, .int .i64 sd, .int .i64 sq] 31
  have HB := Lib.hid (ext1 w (.cells #[.string nm, .int .i64 kd, .int .i64 num, .int .i64 den, .slice T ts.length c, .int .i64 sp, .int .i64 sd, .int .i64 sq] 31))
  unfold ntV
  by_cases h1 : kd = 1
  · rw [if_pos h1]
    subst h1
    go_enter Tryz.func57, Tryz.ntmps57
    go_wp2
    go_ret
    exact ⟨_, _, rfl, fun _ => ⟨w.heap.size + 1, 0, rfl, by omega, by simp, fun j y hy => by
      rw [Nat.zero_add, cell_two_snd]
      match j, hy with
      | 0, hy => simp at hy; subst hy; rfl
      | 1, hy => simp at hy; subst hy; rfl
      | j + 2, hy => simp at hy, fun j => World.frozen?_alloc_at _ _ _ _ (by simp)⟩, ext_alloc HB.out _⟩
  · rw [if_neg h1]
    have t1 : (kd == 1) = false := by simpa using h1
    by_cases h2 : kd = 2
    · rw [if_pos h2]
      subst h2
      clear h1 t1
      have hr1 := hr.below HB.out
      have hVs : w.heap.size < (w.alloc (.cells #[.string nm, .int .i64 2, .int .i64 num, .int .i64 den, .slice T ts.length c, .int .i64 sp, .int .i64 sd, .int .i64 sq] 31)).heap.size := B1.lt
      go_enter Tryz.func57, Tryz.ntmps57
      go_wp2_with fail
      generalize w.alloc (.cells #[.string nm, .int .i64 2, .int .i64 num, .int .i64 den, .slice T ts.length c, .int .i64 sp, .int .i64 sd, .int .i64 sq] 31) = V at *
      have x4 := B1.at 4 _ rfl
      have HCC : Hid (Calls Tryz.prog 102 #[.slice (some ⟨V.heap.size + 1, 0, none⟩) 2 2] ((V.drew.alloc (.cells #[.int .i64 (ts.length : Int)] 2)).alloc (.cells #[.slice (some ⟨V.heap.size, 0, none⟩) 1 1, .slice T ts.length c] 27)) (RetList ((V.drew.alloc (.cells #[.int .i64 (ts.length : Int)] 2)).alloc (.cells #[.slice (some ⟨V.heap.size, 0, none⟩) 1 1, .slice T ts.length c] 27)) ((ts.length : Int) :: ts))) := by
        have hPA : PartsAt ((V.drew.alloc (.cells #[.int .i64 (ts.length : Int)] 2)).alloc (.cells #[.slice (some ⟨V.heap.size, 0, none⟩) 1 1, .slice T ts.length c] 27)) (V.heap.size + 1) [(some ⟨V.heap.size, 0, none⟩, 1, [(ts.length : Int)]), (T, c, ts)] := by
          refine ⟨by simp, fun j t ht => ?_, fun t ht => ?_⟩
          · have hcell : ∀ j, ((V.drew.alloc (.cells #[.int .i64 (ts.length : Int)] 2)).alloc (.cells #[.slice (some ⟨V.heap.size, 0, none⟩) 1 1, .slice T ts.length c] 27)).cell? ⟨V.heap.size + 1, j, none⟩ = (#[.slice (some ⟨V.heap.size, 0, none⟩) 1 1, .slice T ts.length c] : Array Value)[j]? := fun j => cell_two_snd V.drew _ _ _ _ j
            rw [hcell]
            match j, ht with
            | 0, ht => simp at ht; subst ht; rfl
            | 1, ht => simp at ht; subst ht; rfl
            | j + 2, ht => simp at ht
          · have hbb : Below V.heap.size V ((V.drew.alloc (.cells #[.int .i64 (ts.length : Int)] 2)).alloc (.cells #[.slice (some ⟨V.heap.size, 0, none⟩) 1 1, .slice T ts.length c] 27)) := ext_alloc (ext_alloc (ext_drew (Below.refl _ _)) _) _
            simp only [List.mem_cons, List.not_mem_nil, or_false] at ht
            rcases ht with rfl | rfl
            · intro _
              refine ⟨V.heap.size, 0, rfl, by simp; omega, fun j x hx => ?_⟩
              have hc : ((V.drew.alloc (.cells #[.int .i64 (ts.length : Int)] 2)).alloc (.cells #[.slice (some ⟨V.heap.size, 0, none⟩) 1 1, .slice T ts.length c] 27)).cell? ⟨V.heap.size, j, none⟩ = (#[.int .i64 (ts.length : Int)] : Array Value)[j]? := cell_two_fst V.drew _ _ _ _ j
              rw [Nat.zero_add, hc]
              match j, hx with
              | 0, hx => simp at hx; subst hx; rfl
              | j + 1, hx => simp at hx
            · exact ((hr1.more (Nat.le_of_lt hVs)).below hbb).more (by simp; omega)
        have h := concat_any (V.heap.size + 1) 2 _ _ hPA (by simp) (by simp [catL]; omega)
        have e : catL [((some ⟨V.heap.size, 0, none⟩ : Option Addr), 1, [(ts.length : Int)]), (T, c, ts)] = (ts.length : Int) :: ts := by simp [catL]
        rw [e] at h
        exact h
      have HH := Lib.hid (fun (W : World) (hb : BoxV w.heap.size [.string nm, .int .i64 2, .int .i64 num, .int .i64 den, .slice T ts.length c, .int .i64 sp, .int .i64 sd, .int .i64 sq] W) => hb.at 4 _ rfl)
      go_region_held3 (fun w' => w'.cell? ⟨w.heap.size, 4, none⟩ = some (.slice T ts.length c))
        (first | exact HH.out _ B1.drew | exact HH.out _ (B1.drew.alloc _) | exact HH.out _ ((B1.drew.alloc _).alloc _) | exact HH.out _ ((((B1.drew.alloc _).alloc _)).next hb4))
        (first | (go_at_call 103; (with_reducible refine (size_any _ _ _ _).mono ?_); rintro e w' ⟨rfl, rfl⟩) | (go_at_call 102; refine HCC.out.mono ?_; rintro e w4 ⟨A4, c4, rfl, hw4, hb4⟩))
      all_goals
        have HBB := Lib.hid (ext_trans (ext_alloc (ext_alloc (ext_drew HB.out) _) _) hb4)
        have HW4 := Lib.hid (hw4.more (show w.heap.size ≤ _ by simp; omega))
        go_wp2
        go_ret
        exact ⟨A4, c4, rfl, HW4.out, HBB.out⟩
    · rw [if_neg h2]
      have t2 : (kd == 2) = false := by simpa using h2
      clear h1 h2
      go_enter Tryz.func57, Tryz.ntmps57
      go_wp2
      go_ret
      exact ⟨_, _, rfl, fun _ => ⟨w.heap.size + 1, 0, rfl, by omega, by simp, fun j y hy => by
        rw [Nat.zero_add, cell_two_snd]
        match j, hy with
        | 0, hy => simp at hy; subst hy; rfl
        | 1, hy => simp at hy; subst hy; rfl
        | 2, hy => simp at hy; subst hy; rfl
        | j + 3, hy => simp at hy, fun j => World.frozen?_alloc_at _ _ _ _ (by simp)⟩, ext_alloc HB.out _⟩
end Go.Proofs.YtpnabggpdgjbmaaGreatDoor
namespace Go.Proofs.YtpnabggpdgjbmaaGreatDoor
open Go.RowKit Go.Sort
/-- A list of numbers, packed. -/
def pkA (ns : List Int) : List Int := (ns.map fun n => pkL (zigN n)).flatten
theorem pkA_snoc (ns : List Int) (n : Int) : pkA (ns ++ [n]) = pkA ns ++ pkL (zigN n) := by simp [pkA]
/-- A note's bytes. -/
def noteB (x : Nt) : List Int := [(x.name.size : Int)] ++ byI x.name ++ [x.kind] ++ pkA (nuL x)
/-- A notebook's bytes. -/
def bookB (xs : List Nt) : List Int := [78, (xs.length : Int)] ++ (xs.map noteB).flatten
theorem pkL_byte : ∀ (k z : Nat), z ≤ k → ∀ b ∈ pkL z, 0 ≤ b ∧ b ≤ 255
  | 0, z, hk, b, hb => by
    rw [pkL_small (by omega)] at hb
    simp only [List.mem_cons, List.not_mem_nil, or_false] at hb
    omega
  | k + 1, z, hk, b, hb => by
    by_cases h : 128 ≤ z
    · rw [pkL_big h] at hb
      rcases List.mem_cons.1 hb with rfl | hb
      · omega
      · exact pkL_byte k (z / 128) (by omega) b hb
    · rw [pkL_small h] at hb
      simp only [List.mem_cons, List.not_mem_nil, or_false] at hb
      omega
theorem pkA_byte {ns : List Int} : ∀ b ∈ pkA ns, 0 ≤ b ∧ b ≤ 255 := by
  intro b hb
  unfold pkA at hb
  obtain ⟨l, hl, hb⟩ := List.mem_flatten.1 hb
  obtain ⟨n, _, rfl⟩ := List.mem_map.1 hl
  exact pkL_byte _ _ (Nat.le_refl _) b hb
theorem byI_byte {s : ByteArray} : ∀ b ∈ byI s, 0 ≤ b ∧ b ≤ 255 := by
  intro b hb
  unfold byI at hb
  obtain ⟨c, _, rfl⟩ := List.mem_map.1 hb
  have := c.toNat_lt
  omega
theorem noteB_byte {x : Nt} (h1 : x.name.size ≤ 255) (h2 : 0 ≤ x.kind ∧ x.kind ≤ 255) : ∀ b ∈ noteB x, 0 ≤ b ∧ b ≤ 255 := by
  intro b hb
  unfold noteB at hb
  simp only [List.mem_append, List.mem_cons, List.not_mem_nil, or_false] at hb
  rcases hb with ((rfl | hb) | rfl) | hb
  · omega
  · exact byI_byte b hb
  · exact h2
  · exact pkA_byte b hb
theorem bookB_byte {xs : List Nt} (hl : xs.length ≤ 255) (h : ∀ x ∈ xs, x.name.size ≤ 255 ∧ 0 ≤ x.kind ∧ x.kind ≤ 255) : ∀ b ∈ bookB xs, 0 ≤ b ∧ b ≤ 255 := by
  intro b hb
  unfold bookB at hb
  simp only [List.mem_append, List.mem_cons, List.not_mem_nil, or_false] at hb
  rcases hb with (rfl | rfl) | hb
  · omega
  · omega
  · obtain ⟨l, hl, hb⟩ := List.mem_flatten.1 hb
    obtain ⟨x, hx, rfl⟩ := List.mem_map.1 hl
    obtain ⟨h1, h2⟩ := h x hx
    exact noteB_byte h1 h2 b hb
theorem book_step {xs : List Nt} {k : Nat} {x : Nt} (h : xs[k]? = some x) : ((xs.take (k + 1)).map noteB).flatten = ((xs.take k).map noteB).flatten ++ noteB x := by
  rw [List.take_add_one, h]
  simp
theorem strCells_byI (s : ByteArray) : Go.Lib.strCells s = (byI s).map (Value.int .u8) := by
  unfold Go.Lib.strCells byI
  simp
/-- What a note that is sound has. -/
theorem ntOk_bds {x : Nt} (h : ntOk x = true) : x.name.size ≤ 12 ∧ (x.kind = 1 ∨ x.kind = 2 ∨ x.kind = 3) := by
  unfold ntOk nameB at h
  simp only [Bool.and_eq_true, decide_eq_true_iff] at h
  refine ⟨h.1.2.1, ?_⟩
  by_cases h1 : x.kind = 1
  · exact .inl h1
  · by_cases h2 : x.kind = 2
    · exact .inr (.inl h2)
    · by_cases h3 : x.kind = 3
      · exact .inr (.inr h3)
      · simp [h1, h2, h3] at h
theorem OutB.next {w : World} {base : Nat} {out : List Int} {v : Value} {wr w' : World} (h : OutB w base out v wr) (hb : Below wr.heap.size wr w') : OutB w base out v w' :=
  ⟨own_below h.1 hb, ext_trans h.2.1 hb, Nat.le_trans h.2.2 hb.size⟩
/-- Behind an append of many bytes; the world may have grown since (hb) ahead of it. -/
theorem OutB.pushL {w : World} {base : Nat} {out : List Int} {v : Value} {wr W1 : World} (h : OutB w base out v wr) (hbase : w.heap.size ≤ base) (hb : Below wr.heap.size wr W1) (news : List Int) (m : Nat) (v' : Value) (w3 : World)
    (hm : m = news.length) (hown3 : w3.ownsRow base 5 1 v' (out.length + m) (out.map (Value.int .u8) ++ news.map (Value.int .u8))) (hg : W1.grownBy w3 v.ownBlock) : OutB w base (out ++ news) v' w3 := by
  have h1 := h.next hb
  refine ⟨?_, below_grown h1.2.1 h1.1 hbase hg, Nat.le_trans h1.2.2 hg.size⟩
  rw [List.length_append, List.map_append, ← hm]
  exact hown3
/-- The row as a slice of its own. -/
theorem OutB.slice {w : World} {base : Nat} {out : List Int} {v : Value} {wr : World} (h : OutB w base out v wr) : ∃ A c, v = .slice A out.length c ∧ Wr (Value.int .u8) wr base A out := (Wr.of_own h.1).2
theorem pkA_length {ns : List Int} (h : ∀ n ∈ ns, -1000000000000000 ≤ n ∧ n ≤ 1000000000000000) : (pkA ns).length ≤ 10 * ns.length := by
  induction ns with
  | nil => simp [pkA]
  | cons n ns ih =>
    have h1 := pkL_zig (h n (by simp)).1 (h n (by simp)).2
    have h2 := ih (fun m hm => h m (by simp [hm]))
    have e : pkA (n :: ns) = pkL (zigN n) ++ pkA ns := by simp [pkA]
    rw [e, List.length_append, List.length_cons]
    omega
theorem noteB_length {x : Nt} (h1 : x.name.size ≤ 12) (h2 : ∀ n ∈ nuL x, -1000000000000000 ≤ n ∧ n ≤ 1000000000000000) (h3 : (nuL x).length ≤ 61) : (noteB x).length ≤ 700 := by
  have h4 := pkA_length h2
  have h5 := byI_length x.name
  unfold noteB
  simp only [List.length_append, List.length_cons, List.length_nil]
  omega
theorem books_length {xs : List Nt} (h : ∀ x ∈ xs, (noteB x).length ≤ 700) : ((xs.map noteB).flatten).length ≤ 700 * xs.length := by
  induction xs with
  | nil => simp
  | cons x xs ih =>
    have h1 := h x (by simp)
    have h2 := ih (fun y hy => h y (by simp [hy]))
    simp only [List.map_cons, List.flatten_cons, List.length_append, List.length_cons]
    omega
theorem termsAll_bd : ∀ (ts : List Int) (k : Nat), termsAll k ts = true → ∀ t ∈ ts, -1000000000000000 ≤ t ∧ t ≤ 1000000000000000
  | [], _, _, t, ht => by simp at ht
  | x :: xs, k, h, t, ht => by
    have h' : (tmB k x && termsAll (k + 1) xs) = true := h
    rw [Bool.and_eq_true] at h'
    rcases List.mem_cons.1 ht with rfl | ht
    · have h1 := h'.1
      unfold tmB inR at h1
      simp at h1
      omega
    · exact termsAll_bd xs (k + 1) h'.2 t ht
theorem ntOk_nu {x : Nt} (h : ntOk x = true) : (∀ n ∈ nuL x, -1000000000000000 ≤ n ∧ n ≤ 1000000000000000) ∧ (nuL x).length ≤ 61 := by
  unfold ntOk at h
  rw [Bool.and_eq_true] at h
  have h := h.2
  unfold nuL
  by_cases h1 : x.kind = 1
  · rw [if_pos h1] at h ⊢
    rw [Bool.and_eq_true] at h
    obtain ⟨a, b, c, e, _⟩ := fracOk_true.1 h.1
    refine ⟨fun n hn => ?_, by simp⟩
    simp only [List.mem_cons, List.not_mem_nil, or_false] at hn
    rcases hn with rfl | rfl <;> omega
  · rw [if_neg h1] at h ⊢
    by_cases h2 : x.kind = 2
    · rw [if_pos h2] at h ⊢
      rw [Bool.and_eq_true] at h
      have h3 := h.1
      unfold termsB at h3
      rw [Bool.and_eq_true] at h3
      obtain ⟨l1, l2⟩ := inR_true.1 h3.2
      refine ⟨fun n hn => ?_, by simp; omega⟩
      rcases List.mem_cons.1 hn with rfl | hn
      · omega
      · exact termsAll_bd _ 0 h3.1 n hn
    · rw [if_neg h2] at h ⊢
      by_cases h3 : x.kind = 3
      · rw [if_pos h3, Bool.and_eq_true] at h
        obtain ⟨a, _, b, c, _⟩ := surdB_true.1 h.1
        refine ⟨fun n hn => ?_, by simp⟩
        simp only [List.mem_cons, List.not_mem_nil, or_false] at hn
        rcases hn with rfl | rfl | rfl <;> omega
      · rw [if_neg h3] at h; cases h
theorem okToX_all {xs : List Nt} : ∀ n, n ≤ xs.length → okToX xs n = true → ∀ (j : Nat) (x : Nt), j < n → xs[j]? = some x → ntOk x = true
  | 0, _, _, j, x, hj, _ => by omega
  | n + 1, hn, h, j, x, hj, hx => by
    have h' : (okToX xs n && okAtX xs n) = true := h
    rw [Bool.and_eq_true] at h'
    by_cases hjn : j = n
    · subst hjn
      have h2 := h'.2
      unfold okAtX at h2
      rw [hx] at h2
      simp only [Bool.and_eq_true] at h2
      exact h2.1
    · exact okToX_all n (by omega) h'.1 j x (by omega) hx
/-- What a sound notebook has. -/
theorem valid_all {xs : List Nt} (h : validNt xs = true) : xs.length ≤ 40 ∧ ∀ x ∈ xs, ntOk x = true := by
  unfold validNt at h
  rw [Bool.and_eq_true] at h
  refine ⟨by simpa using h.2, fun x hx => ?_⟩
  obtain ⟨j, hj⟩ := List.getElem?_of_mem hx
  exact okToX_all xs.length (Nat.le_refl _) h.1 j x (List.getElem?_eq_some_iff.1 hj).1 hj
theorem book_bds {xs : List Nt} (h : validNt xs = true) : (bookB xs).length ≤ 30000 ∧ (∀ b ∈ bookB xs, 0 ≤ b ∧ b ≤ 255) ∧ 0 < (bookB xs).length := by
  obtain ⟨h1, h2⟩ := valid_all h
  refine ⟨?_, bookB_byte (by omega) (fun x hx => ?_), by simp [bookB]⟩
  · have h3 := books_length (xs := xs) (fun x hx => noteB_length (ntOk_bds (h2 x hx)).1 (ntOk_nu (h2 x hx)).1 (ntOk_nu (h2 x hx)).2)
    unfold bookB
    simp only [List.length_append, List.length_cons, List.length_nil]
    omega
  · obtain ⟨h4, h5⟩ := ntOk_bds (h2 x hx)
    omega
end Go.Proofs.YtpnabggpdgjbmaaGreatDoor
