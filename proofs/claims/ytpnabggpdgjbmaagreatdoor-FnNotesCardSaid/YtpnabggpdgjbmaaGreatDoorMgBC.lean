/- Texts of fractions, surds and terms, read again: the plain law. No condition but those that each theorem names. -/
import Derived.Test.YtpnabggpdgjbmaaGreatDoorMgBB
import Derived.Test.YtpnabggpdgjbmaaGreatDoorMgAU
import Derived.Test.YtpnabggpdgjbmaaGreatDoorMgAE
import Derived.Test.YtpnabggpdgjbmaaGreatDoorMgAC
import Derived.Lib.Replace
import Derived.Lib.IndexMore
namespace Go.Proofs.YtpnabggpdgjbmaaGreatDoor
open Go.RowKit Go.Sort
theorem bap (a b : ByteArray) : (a ++ b).data.toList = a.data.toList ++ b.data.toList := by simp
theorem dcL_eq (n : Int) : dcL n = (if n < 0 then [45] else []) ++ Lib.decDigits n.natAbs := dec_data n
theorem dc_ch {n : Int} {b : UInt8} (h : b ∈ dcL n) : b = 45 ∨ (48 ≤ b.toNat ∧ b.toNat ≤ 57) := by
  rw [dcL_eq] at h
  rcases List.mem_append.1 h with h | h
  · split at h
    · simp at h; exact .inl h
    · simp at h
  · exact .inr (dec_digit _ _ (Nat.le_refl _) b h)
theorem dc_no {n : Int} {c : UInt8} (h1 : c ≠ 45) (h2 : c.toNat < 48 ∨ 57 < c.toNat) : c ∉ dcL n := fun h => by
  rcases dc_ch h with e | ⟨e, f⟩
  · exact h1 e
  · omega
theorem dcL_ne (n : Int) : dcL n ≠ [] := by
  rw [dcL_eq]
  have := dec_ne n.natAbs
  simp [this]
theorem decB_mk (n : Int) : decB n = ⟨(dcL n).toArray⟩ := (back_bytes _).symm
theorem numB_dec {n : Int} (h1 : -1000000000 ≤ n) (h2 : n ≤ 1000000000) : numB (decB n) = some n := numB_some.2 ⟨rfl, by omega⟩
/-! Where a separator begins. -/
theorem ix_at {c : UInt8} {cs : List UInt8} : ∀ (a r : List UInt8), c ∉ a → Lib.index (a ++ (c :: cs ++ r)) (c :: cs) = (a.length : Int)
  | [], r, _ => by
    rw [List.nil_append, List.cons_append, Lib.index, if_pos]
    · rfl
    · rw [← List.cons_append]
      exact List.isPrefixOf_iff_prefix.2 (List.prefix_append _ _)
  | b :: a, r, h => by
    simp only [List.mem_cons, not_or] at h
    have ih := ix_at a r (cs := cs) h.2
    have hp : (c :: cs).isPrefixOf (b :: (a ++ (c :: cs ++ r))) = false := by simp [List.isPrefixOf, h.1]
    have hn : ¬ ((a.length : Int) == -1) = true := by rw [beq_iff_eq]; omega
    rw [List.cons_append, Lib.index, hp, ih, if_neg (by simp), if_neg hn]
    simp
theorem ix_no {c : UInt8} {cs : List UInt8} : ∀ (l : List UInt8), c ∉ l → Lib.index l (c :: cs) = -1
  | [], _ => by simp [Lib.index]
  | b :: l, h => by
    simp only [List.mem_cons, not_or] at h
    have ih := ix_no l (cs := cs) h.2
    have hp : (c :: cs).isPrefixOf (b :: l) = false := by simp [List.isPrefixOf, h.1]
    rw [Lib.index, hp, ih, if_neg (by simp), if_pos (by decide)]
theorem cut_at {c : UInt8} {cs a r : List UInt8} (h : c ∉ a) : Lib.cut (a ++ (c :: cs ++ r)) (c :: cs) = (a, r, true) := by
  unfold Lib.cut
  rw [ix_at a r h, if_pos (by omega)]
  simp only [Int.toNat_natCast]
  have e : List.drop (a.length + (c :: cs).length) (a ++ (c :: cs ++ r)) = r := by
    rw [List.drop_append, List.drop_eq_nil_of_le (by omega), List.nil_append, Nat.add_sub_cancel_left, List.drop_left]
  rw [e, List.take_left]
theorem cut_no {c : UInt8} {cs l : List UInt8} (h : c ∉ l) : Lib.cut l (c :: cs) = (l, [], false) := by
  unfold Lib.cut
  rw [ix_no l h, if_neg (by omega)]
theorem spA_no {c : UInt8} : ∀ (l acc : List UInt8), c ∉ l → spA c acc l = [acc ++ l]
  | [], acc, _ => by simp [spA]
  | b :: l, acc, h => by
    simp only [List.mem_cons, not_or] at h
    rw [spA, if_neg (fun e => h.1 e.symm), spA_no l _ h.2]
    simp
theorem spA_at {c : UInt8} : ∀ (a acc l : List UInt8), c ∉ a → spA c acc (a ++ c :: l) = (acc ++ a) :: spA c [] l
  | [], acc, l, _ => by simp [spA]
  | b :: a, acc, l, h => by
    simp only [List.mem_cons, not_or] at h
    rw [List.cons_append, spA, if_neg (fun e => h.1 e.symm), spA_at a _ l h.2]
    simp
theorem empty_eq {x : ByteArray} (h : x.size = 0) : (x.toList == []) = true ∧ x.toList.isEmpty = true := by
  have hl := size_list x
  have e : x.data.toList = [] := List.eq_nil_of_length_eq_zero (by omega)
  rw [ByteArray.toList_eq, e]
  exact ⟨rfl, rfl⟩
theorem empty_ne {x : ByteArray} (h : ¬ x.size = 0) : (x.toList == []) = false ∧ x.toList.isEmpty = false := by
  have hl := size_list x
  have e : x.data.toList ≠ [] := fun e => by rw [e] at hl; simp at hl; omega
  rw [ByteArray.toList_eq]
  exact ⟨beq_eq_false_iff_ne.2 e, List.isEmpty_eq_false_iff.2 e⟩
/-! Fractions. -/
def mkL (l : List UInt8) : ByteArray := ⟨l.toArray⟩
theorem mkL_size (l : List UInt8) : (mkL l).size = l.length := by simp [mkL, ByteArray.size]
theorem mkL_data (l : List UInt8) : (mkL l).data.toList = l := by simp [mkL]
theorem mkL_back (x : ByteArray) : mkL x.data.toList = x := back_bytes x
def frX (n d : Int) : ByteArray := if fracOk n d = true then frT n d else ⟨#[]⟩
/-- The parts of a fraction's text, as the program cuts it. -/
def rfT (s : ByteArray) : ByteArray := mkL (Lib.cut s.data.toList [47]).1
def rfD (s : ByteArray) : ByteArray := if (Lib.cut s.data.toList [47]).2.2 = true then mkL (Lib.cut s.data.toList [47]).2.1 else ⟨#[49]⟩
/-- The fraction that a text tells. -/
def rfO (s : ByteArray) : Option (Int × Int) := if (numK (rfT s) && (numK (rfD s) && decide (frX (numN (rfT s)) (numN (rfD s)) = s ∧ s.size ≠ 0))) = true then some (numN (rfT s), numN (rfD s)) else none
theorem frX_ok {n d : Int} {s : ByteArray} (h : frX n d = s) (h0 : s.size ≠ 0) : fracOk n d = true ∧ frT n d = s := by
  unfold frX at h
  split at h
  · next hb => exact ⟨hb, h⟩
  · subst h; exact absurd rfl h0
theorem frT_list (n d : Int) : (frT n d).data.toList = if d = 1 then dcL n else dcL n ++ (47 :: [] ++ dcL d) := by
  unfold frT
  split
  · rfl
  · rw [bap, bap]; simp [dcL]
theorem num_one : numB ⟨#[49]⟩ = some 1 := numB_some.2 ⟨by
  unfold decB Lib.itoa
  rw [if_neg (by omega), Lib.decDigits, dif_pos (by decide)]
  rfl, by decide⟩
theorem rf_parts {n d : Int} {s : ByteArray} (h : frT n d = s) : rfT s = decB n ∧ rfD s = decB d := by
  have hl := frT_list n d
  rw [h] at hl
  unfold rfT rfD
  rw [hl]
  split
  · next h1 =>
    rw [cut_no (dc_no (by decide) (by decide))]
    subst h1
    exact ⟨(decB_mk n).symm, by rw [if_neg (by simp)]; exact ((numB_some.1 num_one).1).symm⟩
  · rw [cut_at (dc_no (by decide) (by decide))]
    exact ⟨(decB_mk n).symm, by rw [if_pos rfl]; exact (decB_mk d).symm⟩
theorem frT_ne (n d : Int) : (frT n d).size ≠ 0 := fun e => by
  have hl := frT_list n d
  have hs := size_list (frT n d)
  rw [hl] at hs
  have := List.length_pos_iff.2 (dcL_ne n)
  split at hs
  · omega
  · rw [List.length_append] at hs; omega
theorem rfO_iff {s : ByteArray} {n d : Int} : rfO s = some (n, d) ↔ fracOk n d = true ∧ frT n d = s := by
  constructor
  · intro h
    unfold rfO at h
    split at h
    · next hc =>
      simp only [Bool.and_eq_true, decide_eq_true_iff] at hc
      simp only [Option.some.injEq, Prod.mk.injEq] at h
      obtain ⟨rfl, rfl⟩ := h
      exact frX_ok hc.2.2.1 hc.2.2.2
    · cases h
  · rintro ⟨h1, h2⟩
    obtain ⟨d1, d2, n1, n2, _⟩ := fracOk_true.1 h1
    obtain ⟨e1, e2⟩ := rf_parts h2
    obtain ⟨a1, a2⟩ := num_some_ (numB_dec n1 n2)
    obtain ⟨b1, b2⟩ := num_some_ (numB_dec (n := d) (by omega) (by omega))
    have hx : frX n d = s := by unfold frX; rw [if_pos h1, h2]
    have hz : s.size ≠ 0 := by rw [← h2]; exact frT_ne n d
    unfold rfO
    rw [e1, e2, a1, a2, b1, b2, if_pos (by simp [hx, hz])]
theorem rfO_no {s : ByteArray} (h : ∀ n d, fracOk n d = true → frT n d = s → False) : rfO s = none := by
  cases hr : rfO s with
  | none => rfl
  | some x =>
    obtain ⟨h1, h2⟩ := rfO_iff.1 (show rfO s = some (x.1, x.2) from hr)
    exact (h _ _ h1 h2).elim
/-- .. by the reference's parts. -/
theorem rf_one {s a : ByteArray} (hs : spB 47 s = [a]) : (numK a = true → fracOk (numN a) 1 = true → rfO s = some (numN a, 1)) ∧ ((numK a && fracOk (numN a) 1) = false → rfO s = none) := by
  have hj := jn_spA 47 s.data.toList []
  have has : a = s := by
    unfold spB at hs
    cases hsp : spA 47 [] s.data.toList with
    | nil => exact absurd hsp (spA_ne _ _ _)
    | cons p ps =>
      rw [hsp] at hs hj
      simp only [List.map_cons, List.cons.injEq, List.map_eq_nil_iff] at hs
      obtain ⟨h1, rfl⟩ := hs
      simp [jnA] at hj
      rw [← h1, hj, back_bytes]
  constructor
  · intro h1 h2
    refine rfO_iff.2 ⟨h2, ?_⟩
    unfold frT
    rw [if_pos rfl, ← has]
    exact (numB_some.1 (num_of h1)).1
  · intro h
    refine rfO_no fun n d h1 h2 => ?_
    obtain ⟨d1, d2, n1, n2, _⟩ := fracOk_true.1 h1
    have hl := frT_list n d
    rw [h2] at hl
    by_cases hd : d = 1
    · subst hd
      unfold frT at h2
      rw [if_pos rfl] at h2
      rw [has, ← h2] at h
      obtain ⟨a1, a2⟩ := num_some_ (numB_dec n1 n2)
      rw [a1, a2, h1] at h
      simp at h
    · rw [if_neg hd] at hl
      unfold spB at hs
      rw [hl, List.singleton_append, spA_at _ _ _ (dc_no (by decide) (by decide))] at hs
      simp only [List.map_cons, List.cons.injEq, List.map_eq_nil_iff] at hs
      exact spA_ne _ _ _ hs.2
theorem rf_two {s a b : ByteArray} (hs : spB 47 s = [a, b]) : (numK a = true → numK b = true → numN b ≠ 1 → fracOk (numN a) (numN b) = true → rfO s = some (numN a, numN b)) ∧ ((numK a && (numK b && (!decide (numN b = 1) && fracOk (numN a) (numN b)))) = false → rfO s = none) := by
  have hj := jn_spA 47 s.data.toList []
  have has : s = (a ++ ({ data := #[47] } : ByteArray)) ++ b := by
    unfold spB at hs
    cases hsp : spA 47 [] s.data.toList with
    | nil => exact absurd hsp (spA_ne _ _ _)
    | cons p ps =>
      rw [hsp] at hs hj
      simp only [List.map_cons, List.cons.injEq] at hs
      obtain ⟨h1, h2⟩ := hs
      cases ps with
      | nil => simp at h2
      | cons q qs =>
        simp only [List.map_cons, List.cons.injEq, List.map_eq_nil_iff] at h2
        obtain ⟨h2, rfl⟩ := h2
        simp only [jnA, List.flatMap_cons, List.flatMap_nil, List.append_nil, List.nil_append] at hj
        rw [← back_bytes s, ← hj, ← h1, ← h2]
        apply ByteArray.ext
        simp
  constructor
  · intro h1 h2 h3 h4
    refine rfO_iff.2 ⟨h4, ?_⟩
    unfold frT
    rw [if_neg h3, (numB_some.1 (num_of h1)).1, (numB_some.1 (num_of h2)).1, has]
  · intro h
    refine rfO_no fun n d h1 h2 => ?_
    obtain ⟨d1, d2, n1, n2, _⟩ := fracOk_true.1 h1
    have hl := frT_list n d
    rw [h2] at hl
    unfold spB at hs
    by_cases hd : d = 1
    · rw [if_pos hd] at hl
      rw [hl, spA_no _ _ (dc_no (by decide) (by decide))] at hs
      simp at hs
    · rw [if_neg hd] at hl
      rw [hl, List.singleton_append, spA_at _ _ _ (dc_no (by decide) (by decide)), spA_no _ _ (dc_no (by decide) (by decide))] at hs
      simp only [List.map_cons, List.map_nil, List.nil_append, List.cons.injEq, and_true] at hs
      obtain ⟨e1, e2⟩ := hs
      rw [← decB_mk] at e1 e2
      obtain ⟨a1, a2⟩ := num_some_ (numB_dec n1 n2)
      obtain ⟨b1, b2⟩ := num_some_ (numB_dec (n := d) (by omega) (by omega))
      rw [← e1, ← e2, a1, a2, b1, b2, h1] at h
      simp [hd] at h
theorem rf_more {s a b c : ByteArray} {r : List ByteArray} (hs : spB 47 s = a :: b :: c :: r) : rfO s = none := by
  refine rfO_no fun n d h1 h2 => ?_
  have hl := frT_list n d
  rw [h2] at hl
  unfold spB at hs
  by_cases hd : d = 1
  · rw [if_pos hd] at hl
    rw [hl, spA_no _ _ (dc_no (by decide) (by decide))] at hs
    simp at hs
  · rw [if_neg hd] at hl
    rw [hl, List.singleton_append, spA_at _ _ _ (dc_no (by decide) (by decide)), spA_no _ _ (dc_no (by decide) (by decide))] at hs
    simp at hs
/-! Surds. -/
theorem sdT_list (p d q : Int) : (sdT p d q).data.toList = 40 :: (dcL p ++ (43 :: [114] ++ (dcL d ++ (41 :: [47] ++ dcL q)))) := by
  unfold sdT
  rw [bap, bap, bap, bap, bap]
  simp [dcL]
def sdX (p d q : Int) : ByteArray := if surdB p d q = true then sdT p d q else ⟨#[]⟩
/-- The parts of a surd's text, as the program cuts it: behind the bracket, ahead of the stroke, behind it, ahead of the root, behind it. -/
def rsI (s : ByteArray) : List UInt8 := if [40].isPrefixOf s.data.toList = true then s.data.toList.drop 1 else s.data.toList
def rsT (s : ByteArray) : List UInt8 × List UInt8 × Bool := Lib.cut (rsI s) [41, 47]
def rsR (s : ByteArray) : List UInt8 × List UInt8 × Bool := Lib.cut (rsT s).1 [43, 114]
def rsP (s : ByteArray) : ByteArray := mkL (rsR s).1
def rsD (s : ByteArray) : ByteArray := mkL (rsR s).2.1
def rsQ (s : ByteArray) : ByteArray := mkL (rsT s).2.1
def rsOk (s : ByteArray) : Bool := [40].isPrefixOf s.data.toList && ((rsT s).2.2 && ((rsR s).2.2 && (numK (rsP s) && (numK (rsD s) && (numK (rsQ s) && decide (sdX (numN (rsP s)) (numN (rsD s)) (numN (rsQ s)) = s))))))
/-- The surd that a text tells. -/
def rsO (s : ByteArray) : Option (Int × Int × Int) := if rsOk s = true then some (numN (rsP s), numN (rsD s), numN (rsQ s)) else none
theorem surd_num {p d q : Int} (h : surdB p d q = true) : numB (decB p) = some p ∧ numB (decB d) = some d ∧ numB (decB q) = some q := by
  obtain ⟨h1, _, h3, h4, _⟩ := surdB_true.1 h
  exact ⟨numB_dec (by omega) (by omega), numB_dec (by omega) (by omega), numB_dec (by omega) (by omega)⟩
theorem rs_parts {p d q : Int} {s : ByteArray} (h : sdT p d q = s) : [40].isPrefixOf s.data.toList = true ∧ (rsT s).2.2 = true ∧ (rsR s).2.2 = true ∧ rsP s = decB p ∧ rsD s = decB d ∧ rsQ s = decB q := by
  have hl := sdT_list p d q
  rw [h] at hl
  have h0 : [40].isPrefixOf s.data.toList = true := by rw [hl]; rfl
  have e1 : rsI s = (dcL p ++ (43 :: [114] ++ dcL d)) ++ (41 :: [47] ++ dcL q) := by
    unfold rsI
    rw [if_pos h0, hl]
    simp
  have e2 : rsT s = (dcL p ++ (43 :: [114] ++ dcL d), dcL q, true) := by
    unfold rsT
    rw [e1, cut_at]
    have a1 := dc_no (n := p) (c := 41) (by decide) (by decide)
    have a2 := dc_no (n := d) (c := 41) (by decide) (by decide)
    simp [a1, a2]
  have e3 : rsR s = (dcL p, dcL d, true) := by
    unfold rsR
    rw [e2, cut_at (dc_no (by decide) (by decide))]
  refine ⟨h0, by rw [e2], by rw [e3], ?_, ?_, ?_⟩
  · unfold rsP; rw [e3]; exact (decB_mk p).symm
  · unfold rsD; rw [e3]; exact (decB_mk d).symm
  · unfold rsQ; rw [e2]; exact (decB_mk q).symm
theorem rsO_iff {s : ByteArray} {p d q : Int} : rsO s = some (p, d, q) ↔ surdB p d q = true ∧ sdT p d q = s := by
  constructor
  · intro h
    unfold rsO at h
    split at h
    · next hc =>
      unfold rsOk at hc
      simp only [Bool.and_eq_true, decide_eq_true_iff] at hc
      simp only [Option.some.injEq, Prod.mk.injEq] at h
      obtain ⟨rfl, rfl, rfl⟩ := h
      have hx := hc.2.2.2.2.2.2
      unfold sdX at hx
      split at hx
      · next hb => exact ⟨hb, hx⟩
      · rw [← hx] at hc
        have := hc.1
        cases this
    · cases h
  · rintro ⟨h1, h2⟩
    obtain ⟨f1, f2, f3, e1, e2, e3⟩ := rs_parts h2
    obtain ⟨m1, m2, m3⟩ := surd_num h1
    obtain ⟨a1, a2⟩ := num_some_ m1
    obtain ⟨b1, b2⟩ := num_some_ m2
    obtain ⟨c1, c2⟩ := num_some_ m3
    have hx : sdX p d q = s := by unfold sdX; rw [if_pos h1, h2]
    unfold rsO rsOk
    rw [e1, e2, e3, a1, a2, b1, b2, c1, c2, f1, f2, f3, if_pos (by simp [hx])]
theorem rsO_no {s : ByteArray} (h : ∀ p d q, surdB p d q = true → sdT p d q = s → False) : rsO s = none := by
  cases hr : rsO s with
  | none => rfl
  | some x =>
    obtain ⟨h1, h2⟩ := rsO_iff.1 (show rsO s = some (x.1, x.2.1, x.2.2) from hr)
    exact (h _ _ _ h1 h2).elim
theorem spB_join {c : UInt8} {s a : ByteArray} {r : List ByteArray} (hs : spB c s = a :: r) : s.data.toList = a.data.toList ++ r.flatMap fun x => c :: x.data.toList := by
  have hj := jn_spA c s.data.toList []
  unfold spB at hs
  cases hsp : spA c [] s.data.toList with
  | nil => exact absurd hsp (spA_ne _ _ _)
  | cons p ps =>
    rw [hsp] at hs hj
    simp only [List.map_cons, List.cons.injEq] at hs
    obtain ⟨h1, h2⟩ := hs
    simp only [jnA, List.nil_append] at hj
    rw [← hj, ← h1, ← h2, List.flatMap_map]
/-- A text without its first and its last byte. -/
def midB (s : ByteArray) : ByteArray := s.extract 1 (s.size - 1)
def headB (s : ByteArray) : ByteArray := s.extract 0 (s.size - 1)
theorem mid_list {s : ByteArray} {a b : UInt8} {l : List UInt8} (h : s.data.toList = a :: (l ++ [b])) : (midB s).data.toList = l := by
  have hz := size_list s
  rw [h] at hz
  simp at hz
  unfold midB
  rw [ext_list, h, List.drop_succ_cons, List.drop_zero, show s.size - 1 - 1 = l.length by omega, List.take_left]
theorem head_list' {s : ByteArray} {b : UInt8} {l : List UInt8} (h : s.data.toList = l ++ [b]) : (headB s).data.toList = l := by
  have hz := size_list s
  rw [h] at hz
  simp at hz
  unfold headB
  rw [ext_list, h, List.drop_zero, show s.size - 1 - 0 = l.length by omega, List.take_left]
theorem last_list {s : ByteArray} (h : 1 ≤ s.size) : s.data.toList = (headB s).data.toList ++ [s[s.size - 1]'(by omega)] := by
  have hz := size_list s
  unfold headB
  rw [ext_list, List.drop_zero, Nat.sub_zero]
  have hg : s.data.toList[s.size - 1]? = some (s[s.size - 1]'(by omega)) := by
    rw [List.getElem?_eq_getElem (by omega)]
    rfl
  have h2 := List.take_add_one (l := s.data.toList) (i := s.size - 1)
  rw [hg, show s.size - 1 + 1 = s.size by omega, List.take_of_length_le (by omega)] at h2
  exact h2
theorem mid_last {s : ByteArray} (h : 2 ≤ s.size) : s.data.toList = (s[0]'(by omega)) :: ((midB s).data.toList ++ [s[s.size - 1]'(by omega)]) := by
  have h1 := last_list (s := s) (by omega)
  have hz := size_list s
  have h3 : (headB s).data.toList = (s[0]'(by omega)) :: (midB s).data.toList := by
    unfold headB midB
    rw [ext_list, ext_list, List.drop_zero, Nat.sub_zero]
    conv => lhs; rw [head_list (s := s) (by omega)]
    obtain ⟨k, hk⟩ : ∃ k, s.size - 1 = k + 1 := ⟨s.size - 2, by omega⟩
    rw [hk, List.take_succ_cons, Nat.add_sub_cancel]
  rw [h3] at h1
  exact h1
/-- Whether a surd's text is cut well, as the reference cuts it: the parts a, b between strokes; the parts u, v of the middle of a. -/
theorem rs_two {s a b u v : ByteArray} (hs : spB 47 s = [a, b]) (ha : 2 ≤ a.size) (h0 : a[0]'(by omega) = 40) (h1 : a[a.size - 1]'(by omega) = 41) (hm : spB 114 (midB a) = [u, v]) (hu : 1 ≤ u.size) (hp : u[u.size - 1]'(by omega) = 43) :
    (numK (headB u) = true → numK v = true → numK b = true → surdB (numN (headB u)) (numN v) (numN b) = true → rsO s = some (numN (headB u), numN v, numN b)) ∧ ((numK (headB u) && (numK v && (numK b && surdB (numN (headB u)) (numN v) (numN b)))) = false → rsO s = none) := by
  have e1 := spB_join hs
  have e2 := spB_join hm
  have e3 := mid_last ha
  have e4 := last_list hu
  simp only [List.flatMap_cons, List.flatMap_nil, List.append_nil] at e1 e2
  rw [h0, h1, e2, e4, hp] at e3
  rw [e3] at e1
  constructor
  · intro k1 k2 k3 k4
    refine rsO_iff.2 ⟨k4, ?_⟩
    rw [← back_bytes (sdT _ _ _), ← back_bytes s, sdT_list, e1]
    unfold dcL
    rw [(numB_some.1 (num_of k1)).1, (numB_some.1 (num_of k2)).1, (numB_some.1 (num_of k3)).1]
    simp
  · intro h
    refine rsO_no fun p d q k1 k2 => ?_
    have hl := sdT_list p d q
    rw [k2] at hl
    obtain ⟨m1, m2, m3⟩ := surd_num k1
    have c1 : (47 : UInt8) ∉ (40 :: (dcL p ++ (43 :: [114] ++ (dcL d ++ [41])))) := by
      have a1 := dc_no (n := p) (c := 47) (by decide) (by decide)
      have a2 := dc_no (n := d) (c := 47) (by decide) (by decide)
      simp [a1, a2]
    have hl2 : s.data.toList = (40 :: (dcL p ++ (43 :: [114] ++ (dcL d ++ [41])))) ++ 47 :: dcL q := by rw [hl]; simp
    have hs2 := hs
    unfold spB at hs2
    rw [hl2, spA_at _ _ _ c1, spA_no _ _ (dc_no (by decide) (by decide))] at hs2
    simp only [List.map_cons, List.map_nil, List.nil_append, List.cons.injEq, and_true] at hs2
    obtain ⟨f1, f2⟩ := hs2
    have fa : a.data.toList = 40 :: ((dcL p ++ (43 :: [114] ++ dcL d)) ++ [41]) := by rw [← f1]; simp
    have fm : (midB a).data.toList = (dcL p ++ [43]) ++ 114 :: dcL d := by rw [mid_list fa]; simp
    have hm2 := hm
    unfold spB at hm2
    have c2 : (114 : UInt8) ∉ dcL p ++ [43] := by
      have a1 := dc_no (n := p) (c := 114) (by decide) (by decide)
      simp [a1]
    rw [fm, spA_at _ _ _ c2, spA_no _ _ (dc_no (by decide) (by decide))] at hm2
    simp only [List.map_cons, List.map_nil, List.nil_append, List.cons.injEq, and_true] at hm2
    obtain ⟨g1, g2⟩ := hm2
    have hu2 : headB u = decB p := by
      have : (headB u).data.toList = dcL p := head_list' (b := 43) (by rw [← g1])
      rw [← back_bytes (headB u), this, ← decB_mk]
    rw [hu2, ← g2, ← f2, ← decB_mk, ← decB_mk, (num_some_ m1).1, (num_some_ m1).2, (num_some_ m2).1, (num_some_ m2).2, (num_some_ m3).1, (num_some_ m3).2, k1] at h
    simp at h
/-- .. and if it is not. -/
theorem rs_cut {p d q : Int} {s : ByteArray} (h : sdT p d q = s) : ∃ a u, spB 47 s = [a, decB q] ∧ 2 ≤ a.size ∧ a.data.toList = 40 :: ((midB a).data.toList ++ [41]) ∧ spB 114 (midB a) = [u, decB d] ∧ u.data.toList = dcL p ++ [43] := by
  have hl := sdT_list p d q
  rw [h] at hl
  have c1 : (47 : UInt8) ∉ (40 :: (dcL p ++ (43 :: [114] ++ (dcL d ++ [41])))) := by
    have a1 := dc_no (n := p) (c := 47) (by decide) (by decide)
    have a2 := dc_no (n := d) (c := 47) (by decide) (by decide)
    simp [a1, a2]
  have hl2 : s.data.toList = (40 :: (dcL p ++ (43 :: [114] ++ (dcL d ++ [41])))) ++ 47 :: dcL q := by rw [hl]; simp
  have fa : (mkL (40 :: (dcL p ++ (43 :: [114] ++ (dcL d ++ [41]))))).data.toList = 40 :: ((dcL p ++ (43 :: [114] ++ dcL d)) ++ [41]) := by rw [mkL_data]; simp
  have fm := mid_list fa
  refine ⟨mkL (40 :: (dcL p ++ (43 :: [114] ++ (dcL d ++ [41])))), mkL (dcL p ++ [43]), ?_, (by rw [← size_list, fa]; simp only [List.length_cons, List.length_append, List.length_nil]; omega), by rw [fm, fa], ?_, mkL_data _⟩
  · unfold spB
    rw [hl2, spA_at _ _ _ c1, spA_no _ _ (dc_no (by decide) (by decide))]
    simp only [List.map_cons, List.map_nil, List.nil_append]
    rw [← decB_mk]; rfl
  · unfold spB
    have c2 : (114 : UInt8) ∉ dcL p ++ [43] := by
      have a1 := dc_no (n := p) (c := 114) (by decide) (by decide)
      simp [a1]
    rw [fm, show dcL p ++ (43 :: [114] ++ dcL d) = (dcL p ++ [43]) ++ 114 :: dcL d by simp, spA_at _ _ _ c2, spA_no _ _ (dc_no (by decide) (by decide))]
    simp only [List.map_cons, List.map_nil, List.nil_append]
    rw [← decB_mk]; rfl
/-! Terms. -/
theorem join2 (a b : List UInt8) (r : List (List UInt8)) (sep : List UInt8) : Lib.join (a :: b :: r) sep = a ++ (sep ++ Lib.join (b :: r) sep) := by
  simp [Lib.join_cons, Lib.joinTail]
theorem join1 (a sep : List UInt8) : Lib.join [a] sep = a := by simp [Lib.join_one]
theorem split_join : ∀ (ds : List (List UInt8)) (a : List UInt8), (∀ d ∈ a :: ds, (44 : UInt8) ∉ d) → Lib.splitK [44, 32] 0 (Lib.count (Lib.join (a :: ds) [44, 32]) [44, 32]) (Lib.join (a :: ds) [44, 32]) = a :: ds
  | [], a, h => by
    have hx := ix_no (c := 44) (cs := [32]) a (h a (by simp))
    rw [join1, Lib.count_miss hx]
    rfl
  | b :: ds, a, h => by
    have ih := split_join ds b (fun d hd => h d (List.mem_cons_of_mem _ hd))
    have hx := ix_at (c := 44) (cs := [32]) a (Lib.join (b :: ds) [44, 32]) (h a (by simp))
    have hd : List.drop (a.length + ([44, 32] : List UInt8).length) (a ++ (44 :: [32] ++ Lib.join (b :: ds) [44, 32])) = Lib.join (b :: ds) [44, 32] := by
      rw [List.drop_append, List.drop_eq_nil_of_le (by omega), List.nil_append, Nat.add_sub_cancel_left]
      rfl
    have hm : ((a.length : Int) == -1) = false := by rw [beq_eq_false_iff_ne]; omega
    rw [join2, show ([44, 32] : List UInt8) ++ Lib.join (b :: ds) [44, 32] = 44 :: [32] ++ Lib.join (b :: ds) [44, 32] from rfl, Lib.count_hit (by simp) hx, hd, Nat.add_comm, Lib.splitK, hx, hm]
    simp only [Bool.false_eq_true, if_false, Int.toNat_natCast, Nat.add_zero]
    rw [hd, ih, List.take_left]
theorem splitB_mk (sep s : ByteArray) (k : Nat) : Lib.splitB sep 0 k s = (Lib.splitK sep.data.toList 0 k s.data.toList).map mkL := by
  have h2 := congrArg (List.map mkL) (Lib.splitB_data sep 0 k s)
  rw [List.map_map] at h2
  have e : (mkL ∘ fun x : ByteArray => x.data.toList) = id := funext fun x => back_bytes x
  rw [e, List.map_id] at h2
  exact h2
theorem nums_decs : ∀ {ts : List Int}, (∀ t ∈ ts, -1000000000 ≤ t ∧ t ≤ 1000000000) → numsB (ts.map decB) = some ts
  | [], _ => rfl
  | t :: ts, h => by
    have h1 := h t (by simp)
    rw [List.map_cons, numsB, numB_dec h1.1 h1.2, nums_decs (fun x hx => h x (by simp [hx]))]
    rfl
/-- What stands between the brackets. -/
def tmI : List Int → List UInt8
  | [] => []
  | [t] => dcL t
  | t :: r => dcL t ++ (59 :: [32] ++ Lib.join (r.map dcL) [44, 32])
theorem tmT_list {ts : List Int} (h : 1 ≤ ts.length) : (tmT ts).data.toList = 91 :: (tmI ts ++ [93]) := by
  match ts, h with
  | [t], _ =>
    rw [tmT_one, bap, bap]
    simp [tmI, dcL]
  | t :: u :: r, _ =>
    rw [tmT_more t (u :: r) (by simp), bap, bap, bap, bap]
    simp [tmI, dcL, jnB]
def tmX (ts : List Int) : ByteArray := if termsB ts = true then tmT ts else ⟨#[]⟩
/-- The words of the text of terms, as the program cuts it. -/
def rtA (s : ByteArray) : List UInt8 := Lib.trimPrefix s.data.toList [91]
def rtC (s : ByteArray) : Bool := Lib.hasPrefix s.data.toList [91] && Lib.hasSuffix (rtA s) [93]
def rtJ (s : ByteArray) : List UInt8 := Lib.trimSuffix (rtA s) [93]
def rtR (s : ByteArray) : ByteArray := mkL (Lib.replace (rtJ s) [59, 32] [44, 32] 1)
def rtW (s : ByteArray) : List ByteArray := Lib.splitB ⟨#[44, 32]⟩ 0 (Lib.countB (rtR s) ⟨#[44, 32]⟩) (rtR s)
/-- The terms that a text tells. -/
def rtO (s : ByteArray) : Option (List Int) := if rtC s = true then (match numsB (rtW s) with | some ns => if tmX ns = s then some ns else none | none => none) else none
theorem rt_parts {ts : List Int} {s : ByteArray} (hv : termsB ts = true) (h : tmT ts = s) : rtC s = true ∧ numsB (rtW s) = some ts := by
  obtain ⟨_, hl1, hbd⟩ := termsBBd hv
  have hl := tmT_list hl1
  rw [h] at hl
  have e1 : rtA s = tmI ts ++ [93] := by
    have hp : ([91] : List UInt8).isPrefixOf (91 :: (tmI ts ++ [93])) = true := rfl
    unfold rtA Lib.trimPrefix Lib.hasPrefix
    rw [hl, if_pos hp]
    rfl
  have e2 : rtC s = true := by
    unfold rtC
    rw [e1]
    unfold Lib.hasPrefix Lib.hasSuffix
    rw [hl, Bool.and_eq_true]
    exact ⟨rfl, List.isSuffixOf_iff_suffix.2 (List.suffix_append _ _)⟩
  have e3 : rtJ s = tmI ts := by
    unfold rtC at e2
    rw [Bool.and_eq_true] at e2
    unfold rtJ Lib.trimSuffix
    rw [if_pos e2.2, e1, List.length_append, Nat.add_sub_cancel, List.take_left]
  refine ⟨e2, ?_⟩
  have e4 : rtR s = mkL (Lib.join (ts.map dcL) [44, 32]) := by
    unfold rtR
    rw [e3]
    congr 1
    unfold Lib.replace
    rw [if_neg (by decide)]
    match ts, hl1 with
    | [t], _ =>
      have hx := ix_no (c := 59) (cs := [32]) (dcL t) (dc_no (by decide) (by decide))
      have hk : Lib.replaceNum (tmI [t]) [59, 32] 1 = 0 := by
        unfold Lib.replaceNum
        rw [show tmI [t] = dcL t from rfl, Lib.count_miss hx, if_pos (by simp)]
      rw [hk, List.map_cons, List.map_nil, join1]
      rfl
    | t :: u :: r, _ =>
      have hx := ix_at (c := 59) (cs := [32]) (dcL t) (Lib.join ((u :: r).map dcL) [44, 32]) (dc_no (by decide) (by decide))
      have hi : tmI (t :: u :: r) = dcL t ++ (59 :: [32] ++ Lib.join ((u :: r).map dcL) [44, 32]) := rfl
      have hk : Lib.replaceNum (tmI (t :: u :: r)) [59, 32] 1 = 1 := by
        unfold Lib.replaceNum
        rw [hi, Lib.count_hit (by simp) hx, if_neg (by omega)]
        rfl
      have hd : List.drop ((dcL t).length + ([59, 32] : List UInt8).length) (dcL t ++ (59 :: [32] ++ Lib.join ((u :: r).map dcL) [44, 32])) = Lib.join ((u :: r).map dcL) [44, 32] := by
        rw [List.drop_append, List.drop_eq_nil_of_le (by omega), List.nil_append, Nat.add_sub_cancel_left]
        rfl
      rw [hk, hi, Lib.replaceK_hit _ _ 0 _ _ hx, hd, List.take_left, Lib.replaceK, show (t :: u :: r).map dcL = dcL t :: dcL u :: r.map dcL from rfl, join2]
      simp
  have e5 : rtW s = ts.map decB := by
    unfold rtW
    rw [splitB_mk]
    show (Lib.splitK [44, 32] 0 (Lib.count (rtR s).data.toList [44, 32]) (rtR s).data.toList).map mkL = _
    rw [e4, mkL_data]
    match ts, hl1 with
    | t :: r, _ =>
      rw [List.map_cons, split_join (r.map dcL) (dcL t) (fun d hd => by
        rw [← List.map_cons] at hd
        obtain ⟨x, _, rfl⟩ := List.mem_map.1 hd
        exact dc_no (by decide) (by decide))]
      rw [← List.map_cons, List.map_map]
      rfl
  rw [e5]
  exact nums_decs hbd
theorem rtO_iff {s : ByteArray} {ts : List Int} : rtO s = some ts ↔ termsB ts = true ∧ tmT ts = s := by
  constructor
  · intro h
    unfold rtO at h
    split at h
    · next hc =>
      cases hn : numsB (rtW s) with
      | none => rw [hn] at h; cases h
      | some ns =>
        rw [hn] at h
        simp only at h
        split at h
        · next hx =>
          injection h with h
          subst h
          unfold tmX at hx
          split at hx
          · next hb => exact ⟨hb, hx⟩
          · rw [← hx] at hc
            unfold rtC at hc
            rw [Bool.and_eq_true] at hc
            cases hc.1
        · cases h
    · cases h
  · rintro ⟨h1, h2⟩
    obtain ⟨e1, e2⟩ := rt_parts h1 h2
    unfold rtO
    rw [if_pos e1, e2]
    have hx : tmX ts = s := by unfold tmX; rw [if_pos h1, h2]
    simp [hx]
theorem rtO_no {s : ByteArray} (h : ∀ ts, termsB ts = true → tmT ts = s → False) : rtO s = none := by
  cases hr : rtO s with
  | none => rfl
  | some x =>
    obtain ⟨h1, h2⟩ := rtO_iff.1 hr
    exact (h _ h1 h2).elim
/-- The words, as the reference cuts them: parts between blanks, the empty ones left out. -/
def wdB (s : ByteArray) : List ByteArray := (spB 32 s).filter fun w => decide (w.size ≠ 0)
/-- Each word but the last one without its last byte. -/
def strp : List ByteArray → List ByteArray
  | [] => []
  | [w] => [w]
  | w :: x :: r => headB w :: strp (x :: r)
def wComma : List (List UInt8) → List (List UInt8)
  | [] => []
  | [a] => [a]
  | a :: b :: r => (a ++ [44]) :: wComma (b :: r)
theorem sp_join : ∀ (ds : List (List UInt8)) (a : List UInt8), (∀ d ∈ a :: ds, (32 : UInt8) ∉ d) → spA 32 [] (Lib.join (a :: ds) [44, 32]) = wComma (a :: ds)
  | [], a, h => by rw [join1, spA_no _ _ (h a (by simp))]; rfl
  | b :: ds, a, h => by
    have ih := sp_join ds b (fun d hd => h d (List.mem_cons_of_mem _ hd))
    rw [join2, show a ++ ([44, 32] ++ Lib.join (b :: ds) [44, 32]) = (a ++ [44]) ++ 32 :: Lib.join (b :: ds) [44, 32] by simp, spA_at _ _ _ (by have := h a (by simp); simp [this]), ih]
    rfl
theorem strp_comma : ∀ (ds : List (List UInt8)) (a : List UInt8), strp ((wComma (a :: ds)).map mkL) = (a :: ds).map mkL
  | [], a => rfl
  | b :: ds, a => by
    have ih := strp_comma ds b
    have hh : headB (mkL (a ++ [44])) = mkL a := by
      have := head_list' (s := mkL (a ++ [44])) (b := 44) (l := a) (mkL_data _)
      rw [← mkL_back (headB _), this]
    obtain ⟨y, ys, hy⟩ : ∃ y ys, wComma (b :: ds) = y :: ys := by cases ds <;> exact ⟨_, _, rfl⟩
    rw [wComma, List.map_cons, hy, List.map_cons, strp, hh, ← List.map_cons, ← hy, ih]
    rfl
theorem wComma_ne : ∀ (ds : List (List UInt8)) (a : List UInt8), (∀ d ∈ a :: ds, d ≠ []) → ∀ d ∈ wComma (a :: ds), d ≠ []
  | [], a, h, d, hd => h d hd
  | b :: ds, a, h, d, hd => by
    rw [wComma] at hd
    rcases List.mem_cons.1 hd with rfl | hd
    · simp
    · exact wComma_ne ds b (fun x hx => h x (List.mem_cons_of_mem _ hx)) d hd
theorem rt_ref {ts : List Int} {s : ByteArray} (hv : termsB ts = true) (h : tmT ts = s) : 3 ≤ s.size ∧ s.data.toList = 91 :: ((midB s).data.toList ++ [93]) ∧ numsB (strp (wdB (midB s))) = some ts := by
  obtain ⟨_, hl1, hbd⟩ := termsBBd hv
  have hl := tmT_list hl1
  rw [h] at hl
  have hm := mid_list hl
  have hne : tmI ts ≠ [] := by
    match ts, hl1 with
    | [t], _ => exact dcL_ne t
    | t :: u :: r, _ => simp [tmI]
  refine ⟨?_, by rw [hm, hl], ?_⟩
  · have hz := size_list s
    rw [hl] at hz
    have := List.length_pos_iff.2 hne
    simp only [List.length_cons, List.length_append, List.length_nil] at hz
    omega
  · have e1 : strp (wdB (midB s)) = ts.map decB := by
      have hf : ∀ L : List (List UInt8), (∀ d ∈ L, d ≠ []) → (L.map mkL).filter (fun w => decide (w.size ≠ 0)) = L.map mkL := fun L hL => by
        rw [List.filter_eq_self]
        intro w hw
        obtain ⟨d, hd, rfl⟩ := List.mem_map.1 hw
        have := List.length_pos_iff.2 (hL d hd)
        rw [decide_eq_true_iff, mkL_size]
        omega
      unfold wdB spB
      rw [hm]
      match ts, hl1 with
      | [t], _ =>
        show strp (((spA 32 [] (dcL t)).map mkL).filter _) = _
        rw [spA_no _ _ (dc_no (by decide) (by decide)), hf _ (by simpa using dcL_ne t)]
        simp only [List.nil_append, List.map_cons, List.map_nil, strp]
        rfl
      | t :: u :: r, _ =>
        show strp (((spA 32 [] (dcL t ++ (59 :: [32] ++ Lib.join ((u :: r).map dcL) [44, 32]))).map mkL).filter _) = _
        have hx : (32 : UInt8) ∉ dcL t ++ [59] := by
          have a1 := dc_no (n := t) (c := 32) (by decide) (by decide)
          simp [a1]
        have hjj := sp_join (r.map dcL) (dcL u) (fun d hd => by
          rw [← List.map_cons] at hd
          obtain ⟨x, _, rfl⟩ := List.mem_map.1 hd
          exact dc_no (by decide) (by decide))
        rw [show dcL t ++ (59 :: [32] ++ Lib.join ((u :: r).map dcL) [44, 32]) = (dcL t ++ [59]) ++ 32 :: Lib.join ((u :: r).map dcL) [44, 32] by simp, spA_at _ _ _ hx, show Lib.join ((u :: r).map dcL) [44, 32] = Lib.join (dcL u :: r.map dcL) [44, 32] from rfl, hjj, List.nil_append]
        have hcn := wComma_ne (r.map dcL) (dcL u) (fun d hd => by
          rw [← List.map_cons] at hd
          obtain ⟨x, _, rfl⟩ := List.mem_map.1 hd
          exact dcL_ne x)
        rw [hf _ (fun d hd => by
          rcases List.mem_cons.1 hd with rfl | hd
          · simp
          · exact hcn d hd)]
        obtain ⟨y, ys, hy⟩ : ∃ y ys, wComma (dcL u :: r.map dcL) = y :: ys := by cases r <;> exact ⟨_, _, rfl⟩
        have hh : headB (mkL (dcL t ++ [59])) = decB t := by
          have := head_list' (s := mkL (dcL t ++ [59])) (b := 59) (l := dcL t) (mkL_data _)
          rw [← mkL_back (headB _), this]
          exact (decB_mk t).symm
        have hst := strp_comma (r.map dcL) (dcL u)
        rw [List.map_cons, hy, List.map_cons, strp, hh, ← List.map_cons, ← hy, hst, List.map_cons, List.map_cons, List.map_cons, List.map_map]
        rfl
    rw [e1]
    exact nums_decs hbd
end Go.Proofs.YtpnabggpdgjbmaaGreatDoor
