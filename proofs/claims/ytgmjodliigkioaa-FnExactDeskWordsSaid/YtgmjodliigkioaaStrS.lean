/- Slices of strings: the statements' own comparing, marking and looking. No condition. -/
import Derived.Test.YtgmjodliigkioaaSlices
import Derived.Laws.IdiomStrings
namespace Go.Proofs.Ytgmjodliigkioaa
open Go.RowKit Go.Sort

theorem toList_inj {a b : ByteArray} (h : a.toList = b.toList) : a = b := by
  rw [ByteArray.toList_eq, ByteArray.toList_eq] at h
  obtain ⟨⟨x⟩⟩ := a
  obtain ⟨⟨y⟩⟩ := b
  simp at h
  rw [h]

set_option maxHeartbeats 400000 in
theorem eqStringS_any (A B : Option Addr) (c d : Nat) (xs ys : List ByteArray) (w : World) (hx : Rd Value.string w w.heap.size A xs) (hy : Rd Value.string w w.heap.size B ys) (hm : xs.length ≤ maxLen) (hm' : ys.length ≤ maxLen) :
    Calls Try.prog 24 #[.slice A xs.length c, .slice B ys.length d] w fun e w' => e = .returned (.bool (decide (xs = ys))) ∧ Below w.heap.size w w' := by
  unfold maxLen at hm hm'
  by_cases hl : xs.length = ys.length
  · have hl0 : ((xs.length : Int) != (ys.length : Int)) = false := by simp [hl]
    have HL := Lib.hid hl
    have hl1 : xs.length ≤ ys.length := by omega
    have hl2 : ys.length ≤ xs.length := by omega
    clear hl
    go_enter Try.func24, Try.ntmps24
    go_wp2
    go_loopw [5] (fun t wr => ∃ k : Nat, k ≤ xs.length ∧ t = .int .i64 k ∧ xs.take k = ys.take k ∧ ∃ n, wr = w.drewN n) (fun t _ => xs.length - (intOf t).toNat)
    case atStart => exact ⟨0, by omega, rfl, by simp, 0, rfl⟩
    case round =>
      obtain ⟨k, hk, rfl, ht, nn, rfl⟩ := hrel
      have HT := Lib.hid ht
      clear ht
      by_cases hlt : k < xs.length
      · obtain ⟨b, off, rfl, hb, hc⟩ := hx (by omega)
        obtain ⟨b', off', rfl, hb', hc'⟩ := hy (by omega)
        obtain ⟨x, hxk⟩ : ∃ x, xs[k]? = some x := ⟨_, List.getElem?_eq_getElem hlt⟩
        obtain ⟨y, hyk⟩ : ∃ y, ys[k]? = some y := ⟨_, List.getElem?_eq_getElem (by omega)⟩
        have c1 := hc k x hxk
        have c2 := hc' k y hyk
        have HX := Lib.hid hxk
        have HY := Lib.hid hyk
        clear hc hc' hxk hyk
        have i0 : (0 : Int) ≤ (k : Int) := by omega
        have i1 : (k : Int) < (xs.length : Int) := by omega
        have i2 : (k : Int) < (ys.length : Int) := by omega
        by_cases hxy : x = y
        · subst hxy
          go_wp2_with fail
          go_quiet (fail)
          go_wp2
          go_roundw
          case rel => exact ⟨k + 1, by omega, by go_num, take_eq_succ HT.out HX.out HY.out, _, rfl⟩
          case measure => simp [intOf]; omega
        · have hne : (x.toList == y.toList) = false := by
            rw [beq_eq_false_iff_ne]
            intro h
            exact hxy (toList_inj h)
          go_wp2_with fail
          go_quiet (fail)
          go_wp2
          go_ret
          refine ⟨ret_bool ?_, ⟨rfl, rfl, rfl, Nat.le_refl _, fun _ _ => rfl⟩⟩
          symm
          rw [decide_eq_false_iff_not]
          rintro rfl
          exact hxy (Option.some.inj (HX.out.symm.trans HY.out))
      · go_wp2
        go_ret
        refine ⟨ret_bool ?_, ⟨rfl, rfl, rfl, Nat.le_refl _, fun _ _ => rfl⟩⟩
        symm
        rw [decide_eq_true_iff]
        have h := HT.out
        rw [List.take_of_length_le (by omega), List.take_of_length_le (by omega)] at h
        exact h
  · have hl0 : ((xs.length : Int) != (ys.length : Int)) = true := by simp; omega
    have hl1 : ((xs.length : Int) == (ys.length : Int)) = false := by simp; omega
    go_enter Try.func24, Try.ntmps24
    go_wp2
    go_ret
    exact ⟨ret_bool (by symm; rw [decide_eq_false_iff_not]; rintro rfl; exact hl rfl), Below.refl _ _⟩

def dg8 (k : Nat) : UInt8 := UInt8.ofNat (48 + k % 10)
/-- The decimal digits of k, with fuel; a mark. -/
def dgs : Nat → Nat → List UInt8
  | 0, _ => []
  | f + 1, k => if k = 0 then [] else dgs f (k / 10) ++ [dg8 k]
def mkS (l : List UInt8) : ByteArray := ⟨l.toArray⟩
theorem mkS_append (a b : List UInt8) : mkS (a ++ b) = mkS a ++ mkS b := by
  apply ByteArray.ext
  simp [mkS]
theorem mkS_nil : mkS [] = ByteArray.empty := rfl
def mtext (k : Int) : ByteArray := mkS (109 :: dgs 10 k.toNat)

theorem conv_one (W : World) (n : Nat) (h : n < 256) : (convert 86 9 (.slice (some ⟨W.heap.size, 0, none⟩) 1 1)).run Try.prog (W.alloc (.cells #[.int .u8 (n : Int)] 5)) = .ok (.string (mkS [UInt8.ofNat n])) (W.alloc (.cells #[.int .u8 (n : Int)] 5)) :=
  run_convert_bytes_back (P := Try.prog) _ 86 9 5 ⟨W.heap.size, 0, none⟩ 1 [UInt8.ofNat n] Try.underlying86 Try.underlying5 Try.underlying9 (fun j hj => by
    obtain rfl : j = 0 := by simpa using hj
    have e : (⟨W.heap.size, 0, none⟩ : Addr).add 0 = ⟨W.heap.size, 0, none⟩ := by simp [Addr.add]
    rw [e, cell_one]
    simp only [List.getElem_cons_zero, UInt8.toNat_ofNat']
    have : n % 2 ^ 8 = n := Nat.mod_eq_of_lt (by omega)
    rw [this]; rfl)

set_option maxHeartbeats 400000 in
theorem markText_any (k : Int) (w : World) (h : 1 ≤ k) (h' : k ≤ 1000000000) :
    Calls Try.prog 62 #[.int .i64 k] w fun e w' => e = .returned (.string (mtext k)) ∧ Below w.heap.size w w' := by
  obtain ⟨K, hK⟩ := Int.eq_ofNat_of_zero_le (a := k) (by omega)
  have HK := Lib.hid hK
  have hk0 : decide (k ≤ 0) = false := decide_eq_false (by omega)
  have hKb : K ≤ 1000000000 := by omega
  clear hK
  go_enter Try.func62, Try.ntmps62
  go_wp2_with fail
  go_loopw [3, 0] (fun s t wr => ∃ (b : ByteArray) (k f : Nat), s = .string b ∧ t = .int .i64 k ∧ k ≤ 1000000000 ∧ Hid (k < 10 ^ f) ∧ f + b.size = 10 ∧ Hid (mkS (dgs 10 K) = mkS (dgs f k) ++ b) ∧ Hid (Below w.heap.size w wr)) (fun _ t _ => (intOf t).toNat)
  case atStart => exact ⟨ByteArray.empty, K, 10, rfl, val_int HK.out, by omega, by unfold Hid; omega, rfl, by unfold Hid; simp, Below.refl _ _⟩
  case round =>
    obtain ⟨b, k, f, rfl, rfl, hk, HF, hf, HM, HB⟩ := hrel
    by_cases h0 : 0 < k
    · obtain ⟨g, rfl⟩ : ∃ g, f = g + 1 := by
        rcases f with _ | g
        · have := HF.out; simp at this; omega
        · exact ⟨g, rfl⟩
      have hcv := conv_one wr (48 + k % 10) (by omega)
      rw [show UInt8.ofNat (48 + k % 10) = dg8 k from rfl] at hcv
      have ec : ((48 + k % 10 : Nat) : Int) = 48 + (k : Int) % 10 := by omega
      rw [ec] at hcv
      have hs1 : (mkS [dg8 k]).size = 1 := rfl
      have hz : ¬ 9223372036854775807 < 1 + b.size := by omega
      go_wp2
      go_roundw
      case rel =>
        refine ⟨mkS [dg8 k] ++ b, k / 10, g, rfl, val_int (by omega), by omega, ?_, ?_, ?_, ext_alloc HB.out _⟩
        · have := HF.out
          rw [Nat.pow_succ] at this
          unfold Hid
          omega
        · rw [ByteArray.size_append]; omega
        · have e : dgs (g + 1) k = dgs g (k / 10) ++ [dg8 k] := by rw [dgs, if_neg (by omega)]
          have := HM.out
          rw [e, mkS_append] at this
          unfold Hid
          rw [this, ByteArray.append_assoc]
      case measure => simp [intOf]; omega
    · obtain rfl : k = 0 := by omega
      go_wp2
      go_ret
      refine ⟨?_, HB.out⟩
      have e : dgs f 0 = [] := by cases f <;> simp [dgs]
      have := HM.out
      rw [e, mkS_nil, ByteArray.empty_append] at this
      show Ending.returned (.string (mkS [109] ++ b)) = _
      rw [HK.out, mtext, show (109 :: dgs 10 (K : Int).toNat : List UInt8) = [109] ++ dgs 10 K from rfl, mkS_append, this]

set_option maxHeartbeats 400000 in
theorem markStringS_any (A : Option Addr) (c : Nat) (xs : List ByteArray) (base : Nat) (k : Int) (w : World) (hx : Wr Value.string w base A xs) (hm : xs.length ≤ 900000000) (hk : 1 ≤ k) (hk' : k ≤ 1000000) :
    Calls Try.prog 25 #[.slice A xs.length c, .int .i64 k] w fun e w' => e = .returned (.int .i64 (k + xs.length)) ∧ Wr Value.string w' base A ((marks k xs.length).map mtext) ∧ Below base w w' ∧ w.heap.size ≤ w'.heap.size := by
  rcases Nat.eq_zero_or_pos xs.length with h0 | h0
  · obtain rfl : xs = [] := List.eq_nil_of_length_eq_zero h0
    go_enter Try.func25, Try.ntmps25
    go_wp2
    refine wp_loop_rounds 1 ?_
    rw [rounds_succ]
    go_wp2
    go_ret
    exact ⟨by simp, fun h => absurd h (by simp [marks]), Below.refl _ _, Nat.le_refl _⟩
  · obtain ⟨b, off, rfl, hb0, hb, hc, hf⟩ := hx h0
    have HC := Lib.hid hc
    have HF := Lib.hid hf
    clear hc hf
    go_enter Try.func25, Try.ntmps25
    go_wp2
    go_loopw [5, 1] (fun t m wr => ∃ i : Nat, i ≤ xs.length ∧ t = .int .i64 i ∧ m = .int .i64 (k + i) ∧ Hid ((∀ j, j < i → wr.cell? ⟨b, off + j, none⟩ = some (.string (mtext (k + j)))) ∧ (∀ j, j < xs.length → ∃ v, wr.cell? ⟨b, off + j, none⟩ = some v) ∧ (∀ j, wr.frozen? ⟨b, j, none⟩ = false) ∧ Below base w wr ∧ w.heap.size ≤ wr.heap.size)) (fun t _ _ => xs.length - (intOf t).toNat)
    case atStart => exact ⟨0, by omega, rfl, by simp, fun _ h => absurd h (by omega), fun j hj => ⟨_, HC.out j _ (List.getElem?_eq_getElem hj)⟩, HF.out, Below.refl _ _, Nat.le_refl _⟩
    case round =>
      obtain ⟨i, hi, rfl, rfl, HR⟩ := hrel
      by_cases hlt : i < xs.length
      · go_wp2_with fail
        refine (markText_any (k + i) _ (by omega) (by omega)).mono ?_
        rintro e w2 ⟨rfl, hb2⟩
        have hbl : b < wr.heap.size := Nat.lt_of_lt_of_le hb HR.out.2.2.2.2
        have HR2 : Hid ((∀ j, j < i → w2.cell? ⟨b, off + j, none⟩ = some (.string (mtext (k + j)))) ∧ (∀ j, j < xs.length → ∃ v, w2.cell? ⟨b, off + j, none⟩ = some v) ∧ (∀ j, w2.frozen? ⟨b, j, none⟩ = false) ∧ Below base w w2 ∧ w.heap.size ≤ w2.heap.size) := by
          obtain ⟨r1, r2, r3, r4, r5⟩ := HR.out
          have hcc : ∀ o, w2.cell? ⟨b, o, none⟩ = wr.cell? ⟨b, o, none⟩ := fun o => hb2.cell (p := ⟨b, o, none⟩) hbl
          refine ⟨fun j hj => (hcc _).trans (r1 j hj), fun j hj => ?_, fun j => (hb2.frozen (p := ⟨b, j, none⟩) hbl).trans (r3 j), r4.trans (hb2.mono (by omega)), Nat.le_trans r5 hb2.size⟩
          obtain ⟨v, hv⟩ := r2 j hj
          exact ⟨v, (hcc _).trans hv⟩
        obtain ⟨v, hv⟩ := HR2.out.2.1 i hlt
        have hfi : w2.frozen? ⟨b, off + i, none⟩ = false := HR2.out.2.2.1 _
        have i0 : (0 : Int) ≤ (i : Int) := by omega
        have i1 : (i : Int) < (xs.length : Int) := by omega
        clear HR
        go_wp2
        go_roundw
        case rel =>
          obtain ⟨r1, r2, r3, r4, r5⟩ := HR2.out
          refine ⟨i + 1, by omega, by go_num, val_int (by omega), fun j hj => ?_, fun j hj => ?_, fun j => ?_, r4.setCell (by exact hb0) _, by simpa using r5⟩
          · rcases Nat.lt_or_ge j i with h | h
            · refine (World.cell?_setCell_other w2 ⟨b, off + i, none⟩ ⟨b, off + j, none⟩ _ ?_).trans (r1 j h)
              intro e; injection e; omega
            · obtain rfl : j = i := by omega
              exact World.cell?_setCell_same _ _ _ hv
          · by_cases h : j = i
            · subst h; exact ⟨_, World.cell?_setCell_same _ _ _ hv⟩
            · obtain ⟨u, hu⟩ := r2 j hj
              refine ⟨u, (World.cell?_setCell_other w2 ⟨b, off + i, none⟩ ⟨b, off + j, none⟩ _ ?_).trans hu⟩
              intro e; injection e; omega
          · exact (World.frozen?_setCell _ _ _ _).trans (r3 j)
        case measure => simp [intOf]; omega
      · go_wp2
        go_ret
        obtain ⟨r1, r2, r3, r4, r5⟩ := HR.out
        refine ⟨ret_int (by omega), fun _ => ⟨b, off, rfl, hb0, by omega, fun j x hx => ?_, r3⟩, r4, r5⟩
        rw [List.getElem?_map] at hx
        have hj : j < xs.length := by
          rcases Nat.lt_or_ge j xs.length with h | h
          · exact h
          · rw [List.getElem?_eq_none (by rw [marks_length]; exact h)] at hx; cases hx
        rw [marks_get k _ j hj] at hx
        injection hx with hx
        subst hx
        exact r1 j (by omega)

set_option maxHeartbeats 400000 in
theorem heldStringS_any (A : Option Addr) (c : Nat) (n : Nat) (k : Int) (w : World) (hx : Rd Value.string w w.heap.size A ((marks k n).map mtext)) (hm : n ≤ 900000000) (hk : 1 ≤ k) (hk' : k ≤ 1000000) :
    Calls Try.prog 26 #[.slice A n c, .int .i64 k] w fun e w' => e = .returned (.int .i64 (k + n)) ∧ Below w.heap.size w w' := by
  go_enter Try.func26, Try.ntmps26
  go_wp2
  go_loopw [5, 1] (fun t m wr => ∃ i : Nat, i ≤ n ∧ t = .int .i64 i ∧ m = .int .i64 (k + i) ∧ Hid (Below w.heap.size w wr)) (fun t _ _ => n - (intOf t).toNat)
  case atStart => exact ⟨0, by omega, rfl, by simp, Below.refl _ _⟩
  case round =>
    obtain ⟨i, hi, rfl, rfl, HB⟩ := hrel
    by_cases hlt : i < n
    · obtain ⟨b, off, rfl, hb, hc⟩ := hx (by rw [List.length_map, marks_length]; omega)
      have hci : wr.cell? ⟨b, off + i, none⟩ = some (.string (mtext (k + i))) := (HB.out.cell (p := ⟨b, off + i, none⟩) hb).trans (hc i _ (by rw [List.getElem?_map, marks_get k n i hlt]; rfl))
      clear hc
      have hci' : ∀ d os, (grow (redrawn wr d) os).cell? ⟨b, off + i, none⟩ = some (.string (mtext (k + i))) := cell_regrown hci
      have i0 : (0 : Int) ≤ (i : Int) := by omega
      have i1 : (i : Int) < (n : Int) := by omega
      go_wp2_with fail
      refine wp_region_quiet_below (by kernel_rfl) (by kernel_rfl) ?_
      repeat (first | go_big_quiet_step ((with_reducible exact Calls.regrown_of (markText_any (k + i) _ (by omega) (by omega)))) | quiet_step ((with_reducible exact Calls.regrown_of (markText_any (k + i) _ (by omega) (by omega)))))
      refine wpQuiet_nil ?_
      intro _ hw'
      obtain ⟨⟨dq, oq⟩, hw''⟩ := hw'
      subst hw''
      go_wp2
      go_roundw
      case rel => exact ⟨i + 1, by omega, by go_num, val_int (by omega), ext_trans HB.out (below_regrown wr dq oq)⟩
      case measure => simp [intOf]; omega
    · go_wp2
      go_ret
      exact ⟨ret_int (by omega), HB.out⟩
end Go.Proofs.Ytgmjodliigkioaa
