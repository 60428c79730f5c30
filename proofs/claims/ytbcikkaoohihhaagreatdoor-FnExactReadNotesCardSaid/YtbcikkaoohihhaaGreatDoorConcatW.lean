/- slices.Concat at integers: the walk. No condition but those that each theorem names. -/
import Derived.Test.YtbcikkaoohihhaaGreatDoorMrA
import Derived.Lib.AppendZerosOnto
import Derived.Lib.AppendZeros
namespace Go.Proofs.YtbcikkaoohihhaaGreatDoor
open Go.RowKit Go.Sort

theorem own_room {w : World} {base : Nat} {e : TypeId} {size n : Nat} {v : Value} {xs : List Value} (h : w.ownsRow base e size v n xs) : ∃ B cp, v = .slice B n cp ∧ n ≤ cp := by
  rcases h.2 with ⟨rfl, rfl⟩ | ⟨g, cap, cur, rfl, _, _, hc, _⟩
  · exact ⟨_, _, rfl, Nat.le_refl _⟩
  · exact ⟨_, _, rfl, hc⟩
theorem run_append_empty (B : Option Addr) (n cp : Nat) (A : Option Addr) (d : Nat) (ty : TypeId) (w : World) (h : n ≤ cp) :
    (Builtin.append_ #[32, 32] ty #[.slice B n cp, .slice A 0 d]).run Tryz.prog w = .ok (.slice B n cp) w := by
  obtain ⟨i0, hi, hz0, hz1, hz2⟩ := info_parts info64
  have ht := Tryz.underlying32
  cases B <;> cases A <;> simp [Builtin.append_, run_underlying ht, sizeOf, typeInfo, hi, Builtin.lenOf, h, Builtin.firstCells, loadCells, loadCellsFrom, storeCells]
set_option maxRecDepth 100000 in
theorem growNil_any (n : Nat) (w : World) (hn : n ≤ 1000000000) :
    Calls Tryz.prog 153 #[.slice none 0 0, .int .i64 (n : Int)] w fun e w' => ∃ v, e = .returned v ∧ w'.ownsRow w.heap.size 2 1 v 0 [] ∧ Below w.heap.size w w' := by
  obtain ⟨i0, hi, hz0, hz1, hz2⟩ := info_parts info64
  rcases Nat.eq_zero_or_pos n with h0 | h0
  · subst h0
    go_enter Tryz.func153, Tryz.ntmps153
    go_wp2
    go_ret
    exact ⟨_, rfl, own_nil, Below.refl _ _⟩
  · have hrz : ∀ ty, (Builtin.append_ #[32, 3] ty #[.slice none 0 0, .int .i64 (n : Int)]).run Tryz.prog w =
        .ok (.slice (some ⟨w.heap.size, 0, none⟩) (0 + n) (grownCap w (0 + n) 0 2)) (w.drew.alloc (.cells ((#[] : Array Value) ++ Builtin.zeroCells (Value.int .i64 0).cells n ++ Builtin.zeroCells (Value.int .i64 0).cells (grownCap w (0 + n) 0 2 - (0 + n))) 2)) := fun ty =>
      Lib.run_append_grow_zeros w 32 3 ty 2 i0 (.int .i64 0) .i64 .i64 Tryz.underlying32 Tryz.underlying3 hi hz0 none 0 0 [] (run_firstCells_none w.drew i0.size 0 0 0) n h0 (by omega) (by omega) (by omega) (by rw [hz2]; omega) (growslice_fits (by omega) (by rw [hz2]; omega))
    have hge := grownCap_ge w (0 + n) 0 2
    have hcm := grownCap_le_maxLen w (0 + n) 0 2 (by unfold maxLen; omega)
    generalize hG : grownCap w (0 + n) 0 2 = G at *
    clear hG
    have hsz : ((#[] : Array Value) ++ Builtin.zeroCells (Value.int .i64 0).cells n ++ Builtin.zeroCells (Value.int .i64 0).cells (G - (0 + n))).size = G * 1 := by
      simp [size_zeroCells, Value.cells]
      omega
    have hown := World.ownsRow_made (base := w.heap.size) (e := 2) (size := 1) w.drew _ G (Nat.le_refl _) hcm hsz
    have HO := Lib.hid hown
    have HB := Lib.hid (ext_alloc (ext_drew (Below.refl w.heap.size w)) (.cells ((#[] : Array Value) ++ Builtin.zeroCells (Value.int .i64 0).cells n ++ Builtin.zeroCells (Value.int .i64 0).cells (G - (0 + n))) 2))
    have HRZ := Lib.hid hrz
    unfold maxLen at hcm
    clear hown hsz hrz hi hz0 hz1 hz2
    have hnG : n ≤ G := by omega
    generalize w.drew.alloc (.cells ((#[] : Array Value) ++ Builtin.zeroCells (Value.int .i64 0).cells n ++ Builtin.zeroCells (Value.int .i64 0).cells (G - (0 + n))) 2) = W at *
    have hp : 0 < (n : Int) := by omega
    go_enter Tryz.func153, Tryz.ntmps153
    go_wp2_with (at_builtin; refine Lib.wpList_append_run _ rfl _ _ _ _ rfl _ _ rfl rfl _ _ (HRZ.out _) ?_)
    go_ret
    exact ⟨_, rfl, HO.out, HB.out⟩
/-- A slice of slices of integers: their addresses, capacities, elements. -/
abbrev Part := Option Addr × Nat × List Int
def catL (P : List Part) : List Int := P.flatMap fun t => t.2.2
def PartsAt (w : World) (b : Nat) (P : List Part) : Prop := b < w.heap.size ∧ (∀ j t, P[j]? = some t → w.cell? ⟨b, j, none⟩ = some (.slice t.1 t.2.2.length t.2.1)) ∧ ∀ t ∈ P, Rd (Value.int .i64) w w.heap.size t.1 t.2.2
theorem PartsAt.next {w w' : World} {b : Nat} {P : List Part} (h : PartsAt w b P) (hb : Below w.heap.size w w') : PartsAt w' b P :=
  ⟨Nat.lt_of_lt_of_le h.1 hb.size, fun j t ht => (hb.cell (p := ⟨b, j, none⟩) h.1).trans (h.2.1 j t ht), fun t ht => ((h.2.2 t ht).below hb).more hb.size⟩
theorem catL_step {P : List Part} {k : Nat} {t : Part} (h : P[k]? = some t) : catL (P.take (k + 1)) = catL (P.take k) ++ t.2.2 := by
  unfold catL
  rw [List.take_add_one, h]
  simp
theorem catL_le (P : List Part) (k : Nat) : (catL (P.take k)).length ≤ (catL P).length := by
  have : catL P = catL (P.take k) ++ catL (P.drop k) := by
    unfold catL
    rw [← List.flatMap_append, List.take_append_drop]
  rw [this, List.length_append]
  omega
set_option maxRecDepth 100000 in
set_option maxHeartbeats 1000000 in
theorem concat_any (b c : Nat) (P : List Part) (w : World) (hP : PartsAt w b P) (hl : P.length ≤ 1000) (hc : (catL P).length ≤ 1000000000) :
    Calls Tryz.prog 113 #[.slice (some ⟨b, 0, none⟩) P.length c] w (RetList w (catL P)) := by
  obtain ⟨i0, hi, hz0, hz1, hz2⟩ := info_parts info64
  have HI := Lib.hid hi
  clear hi
  have HPP := Lib.hid hP
  clear hP
  have HLE := Lib.hid (catL_le P)
  go_enter Tryz.func113, Tryz.ntmps113
  go_wp2_with fail
  go_loop [11, 3] (fun t s => ∃ k : Nat, k ≤ P.length ∧ t = .int .i64 k ∧ s = .int .i64 ((catL (P.take k)).length : Int)) (fun t _ => P.length - (intOf t).toNat)
  case atStart => exact ⟨0, by omega, rfl, rfl⟩
  case round =>
    obtain ⟨k, hk, rfl, rfl⟩ := hrel
    by_cases hlt : k < P.length
    · obtain ⟨⟨A, d, xs⟩, htk⟩ : ∃ x, P[k]? = some x := ⟨_, List.getElem?_eq_getElem hlt⟩
      have c0 := HPP.out.2.1 k _ htk
      have HS := Lib.hid (congrArg List.length (catL_step htk))
      have h1 := HLE.out (k + 1)
      rw [HS.out] at h1
      simp only [List.length_append] at h1
      have HS2 : Hid ((catL (P.take (k + 1))).length = (catL (P.take k)).length + xs.length) := by
        have := HS.out
        rw [List.length_append] at this
        exact this
      have i0' : (0 : Int) ≤ (k : Int) := by omega
      have i1 : (k : Int) < (P.length : Int) := by omega
      clear htk HS
      generalize (catL (P.take k)).length = m at *
      simp only at c0
      go_wp2
      go_round
      case rel => exact ⟨k + 1, by omega, by go_num, by rw [HS2.out]; go_num⟩
      case measure => simp [intOf]; omega
    · obtain rfl : k = P.length := by omega
      rw [List.take_of_length_le (Nat.le_refl _)]
      have HG := Lib.hid (fun W : World => growNil_any (catL P).length W hc)
      have hcc : (catL P).length ≤ 1000000000 := hc
      generalize hM : catL P = M at *
      have HMM := Lib.hid hM
      clear hM
      have HLM : Hid (catL (P.take P.length) = M) := by unfold Hid; rw [List.take_of_length_le (Nat.le_refl _)]; exact HMM.out
      go_wp2_with fail
      refine (HG.out _).mono ?_
      rintro e w1 ⟨v, rfl, hown1, hb1⟩
      have HV0 : Hid (OutI w w.heap.size [] v w1) := ⟨hown1, hb1, hb1.size⟩
      clear hown1 hb1
      go_wp2_with fail
      go_loopw [27, 6] (fun t v wr => ∃ (k : Nat), k ≤ P.length ∧ t = .int .i64 k ∧ Hid (OutI w w.heap.size (catL (P.take k)) v wr)) (fun t _ _ => P.length - (intOf t).toNat)
      case atStart => exact ⟨0, by omega, rfl, HV0.out⟩
      case round =>
        obtain ⟨k, hk, rfl, HV⟩ := hrel
        clear HV0
        by_cases hlt : k < P.length
        · obtain ⟨⟨A, d, xs⟩, htk⟩ : ∃ x, P[k]? = some x := ⟨_, List.getElem?_eq_getElem hlt⟩
          have hPw := HPP.out.next HV.out.2.1
          have c0 := hPw.2.1 k _ htk
          have hrd := hPw.2.2 _ (List.mem_of_getElem? htk)
          have HS := Lib.hid (catL_step htk)
          have h1 := HLE.out (k + 1)
          rw [HS.out] at h1
          simp only [List.length_append] at h1
          have i0' : (0 : Int) ≤ (k : Int) := by omega
          have i1 : (k : Int) < (P.length : Int) := by omega
          clear htk hPw
          simp only at c0 hrd HS
          generalize hXX : catL (P.take k) = X at *
          clear hXX
          rcases Nat.eq_zero_or_pos xs.length with h0 | h0
          · have hxe : xs = [] := List.eq_nil_of_length_eq_zero h0
            subst hxe
            obtain ⟨B, cp, e1, hcp⟩ := own_room HV.out.1
            subst e1
            have HRE := Lib.hid (fun ty => run_append_empty B X.length cp A d ty wr hcp)
            have HN : Hid (catL (P.take (k + 1)) = X) := by unfold Hid; rw [HS.out]; simp
            simp only [List.length_nil] at c0
            go_wp2_with (at_builtin; refine Lib.wpList_append_run _ rfl _ _ _ _ rfl _ _ rfl rfl _ _ (HRE.out _) ?_)
            go_roundw
            case rel => exact ⟨k + 1, by omega, by go_num, by rw [HN.out]; exact HV.out⟩
            case measure => simp [intOf]; omega
          · obtain ⟨b', off, rfl, hb', hcc'⟩ := hrd h0
            have HC := Lib.hid hcc'
            have hown := HV.out.1
            have hbz := HV.out.2.2
            clear hcc' hrd
            go_wp2_with (at_builtin; refine wpList_append_own _ rfl _ _ 32 rfl w.heap.size 2 i0 (.int .i64 0) 1 8 Tryz.underlying32 HI.out hz0 hz1 hz2 rfl (by decide) _ _ _ rfl hown ⟨b', off, none⟩ xs.length d (xs.map (Value.int .i64)) rfl (by simp) ?c1 ?c2 ?c3 ?c4 ?c5 ?_)
            case c1 =>
              intro j u hu
              rw [List.getElem?_map] at hu
              cases hx : xs[j]? with
              | none => rw [hx] at hu; cases hu
              | some x =>
                rw [hx] at hu
                obtain rfl := Option.some.inj hu
                have hcx := HC.out j x hx
                have ea : (⟨b', off, none⟩ : Addr).add j = ⟨b', off + j, none⟩ := by simp [Addr.add]
                rw [ea]
                exact hcx
            case c2 => intro u hu; obtain ⟨x, _, rfl⟩ := List.mem_map.1 hu; rfl
            case c3 => unfold maxLen; omega
            case c4 => omega
            case c5 => exact hbz
            intro v' w3 hown3 hgrow _
            have HV3 : Hid (OutI w w.heap.size (catL (P.take (k + 1))) v' w3) := by
              unfold Hid
              rw [HS.out]
              refine ⟨by simpa using hown3, below_grown HV.out.2.1 HV.out.1 (Nat.le_refl _) hgrow, Nat.le_trans hbz hgrow.size⟩
            clear hown3 hgrow hown
            go_wp2
            go_roundw
            case rel => exact ⟨k + 1, by omega, by go_num, HV3.out⟩
            case measure => simp [intOf]; omega
        · obtain rfl : k = P.length := by omega
          rw [HLM.out] at HV
          obtain ⟨hown, hbel, hsz⟩ := HV.out
          obtain ⟨hn, A, c, rfl, hw⟩ := Wr.of_own hown
          go_wp2
          go_ret
          exact ⟨A, c, rfl, hw, hbel⟩
end Go.Proofs.YtbcikkaoohihhaaGreatDoor
