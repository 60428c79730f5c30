/- What readers of notes tell: the plain law. No condition but those that each theorem names. -/
import Derived.Test.YtbcikkaoohihhaaGreatDoorUnpP
namespace Go.Proofs.YtbcikkaoohihhaaGreatDoor
open Go.RowKit Go.Sort

theorem nu1 {x : Nt} (h : x.kind = 1) : nuL x = [x.num, x.den] := by unfold nuL; rw [if_pos h]
theorem nu2 {x : Nt} (h : x.kind = 2) : nuL x = (x.terms.length : Int) :: x.terms := by unfold nuL; rw [if_neg (by omega), if_pos h]
theorem nu3 {x : Nt} (h : x.kind = 3) : nuL x = [x.sp, x.sd, x.sq] := by unfold nuL; rw [if_neg (by omega), if_neg (by omega)]
theorem pkA_cons1 (n : Int) (ns : List Int) : pkA (n :: ns) = pkL (zigN n) ++ pkA ns := by simp [pkA]
theorem pkA_app (a b : List Int) : pkA (a ++ b) = pkA a ++ pkA b := by simp [pkA]
theorem termsAll_bd9 : ∀ (ts : List Int) (k : Nat), termsAll k ts = true → ∀ t ∈ ts, -1000000000 ≤ t ∧ t ≤ 1000000000
  | [], _, _, t, ht => by simp at ht
  | x :: xs, k, h, t, ht => by
    have h' : (tmB k x && termsAll (k + 1) xs) = true := h
    rw [Bool.and_eq_true] at h'
    rcases List.mem_cons.1 ht with rfl | ht
    · have h1 := h'.1
      unfold tmB inR at h1
      simp at h1
      split at h1 <;> omega
    · exact termsAll_bd9 xs (k + 1) h'.2 t ht
theorem zT_nil {x : Nt} (h : x.zT = true) : x.terms = [] := by
  unfold Nt.zT at h
  exact List.length_eq_zero_iff.1 (by simpa using h)
theorem zS_zero {x : Nt} (h : x.zS = true) : x.sp = 0 ∧ x.sd = 0 ∧ x.sq = 0 := by
  unfold Nt.zS at h
  simpa using h
theorem zF_zero {x : Nt} (h : x.zF = true) : x.num = 0 ∧ x.den = 0 := by
  unfold Nt.zF at h
  simpa using h
theorem ntOk_1 {x : Nt} (h : ntOk x = true) (hk : x.kind = 1) : (x.terms = [] ∧ x.sp = 0 ∧ x.sd = 0 ∧ x.sq = 0) ∧ ∀ m ∈ [x.num, x.den], -1000000000000 ≤ m ∧ m ≤ 1000000000000 := by
  unfold ntOk at h
  rw [Bool.and_eq_true, if_pos hk, Bool.and_eq_true, Bool.and_eq_true] at h
  obtain ⟨a, b, c, e, _⟩ := fracOk_true.1 h.2.1
  refine ⟨⟨zT_nil h.2.2.1, zS_zero h.2.2.2⟩, fun m hm => ?_⟩
  simp only [List.mem_cons, List.not_mem_nil, or_false] at hm
  rcases hm with rfl | rfl <;> omega
theorem ntOk_2 {x : Nt} (h : ntOk x = true) (hk : x.kind = 2) : (x.num = 0 ∧ x.den = 0 ∧ x.sp = 0 ∧ x.sd = 0 ∧ x.sq = 0) ∧ (1 ≤ x.terms.length ∧ x.terms.length ≤ 60) ∧ ∀ m ∈ x.terms, -1000000000000 ≤ m ∧ m ≤ 1000000000000 := by
  unfold ntOk at h
  rw [Bool.and_eq_true, if_neg (by omega), if_pos hk, Bool.and_eq_true, Bool.and_eq_true] at h
  have h3 := h.2.1
  unfold termsB at h3
  rw [Bool.and_eq_true] at h3
  obtain ⟨l1, l2⟩ := inR_true.1 h3.2
  obtain ⟨f1, f2⟩ := zF_zero h.2.2.1
  refine ⟨⟨f1, f2, zS_zero h.2.2.2⟩, by omega, fun m hm => ?_⟩
  have := termsAll_bd9 _ 0 h3.1 m hm
  omega
theorem ntOk_3 {x : Nt} (h : ntOk x = true) (hk : x.kind = 3) : (x.num = 0 ∧ x.den = 0 ∧ x.terms = []) ∧ ∀ m ∈ [x.sp, x.sd, x.sq], -1000000000000 ≤ m ∧ m ≤ 1000000000000 := by
  unfold ntOk at h
  rw [Bool.and_eq_true, if_neg (by omega), if_neg (by omega), if_pos hk, Bool.and_eq_true, Bool.and_eq_true] at h
  obtain ⟨f1, f2⟩ := zF_zero h.2.2.1
  obtain ⟨a, _, b, c, _⟩ := surdB_true.1 h.2.1
  refine ⟨⟨f1, f2, zT_nil h.2.2.2⟩, fun m hm => ?_⟩
  simp only [List.mem_cons, List.not_mem_nil, or_false] at hm
  rcases hm with rfl | rfl | rfl <;> omega
section
variable {D E D' : List Int} {ok o ok' : Bool} {s : ByteArray}
theorem NotP.one {a b : Int} (h : HedP D ok s 1 E o) (hs : SeqP E o [a, b] D' ok') : NotP D ok ⟨s, 1, a, b, [], 0, 0, 0⟩ D' ok' := by
  obtain ⟨h1, h2, h3, h4, h5⟩ := h
  obtain ⟨s1, s2, s3⟩ := hs
  refine ⟨h1, by simp; omega, fun h => h3 (s1 h), by omega, fun y L hy he ho => ?_⟩
  obtain ⟨e1, e2, e3, e4⟩ := h5 y L hy he ho
  have hk : y.kind = 1 := by omega
  obtain ⟨⟨z1, z2, z3, z4⟩, hb⟩ := ntOk_1 hy hk
  rw [nu1 hk] at e3
  obtain ⟨q1, q2, q3⟩ := s3 _ L hb (by simp) e3 e4
  simp only [List.cons.injEq, and_true] at q1
  refine ⟨?_, q2, q3⟩
  rw [e1, q1.1, q1.2, ← hk, ← z1, ← z2]
  cases y
  simp only at z1 z2 z3 z4 ⊢
  rw [z3, z4, z2]
theorem NotP.three {a b c : Int} (h : HedP D ok s 3 E o) (hs : SeqP E o [a, b, c] D' ok') : NotP D ok ⟨s, 3, 0, 0, [], a, b, c⟩ D' ok' := by
  obtain ⟨h1, h2, h3, h4, h5⟩ := h
  obtain ⟨s1, s2, s3⟩ := hs
  refine ⟨h1, by simp; omega, fun h => h3 (s1 h), by omega, fun y L hy he ho => ?_⟩
  obtain ⟨e1, e2, e3, e4⟩ := h5 y L hy he ho
  have hk : y.kind = 3 := by omega
  obtain ⟨⟨z1, z2, z3⟩, hb⟩ := ntOk_3 hy hk
  rw [nu3 hk] at e3
  obtain ⟨q1, q2, q3⟩ := s3 _ L hb (by simp) e3 e4
  simp only [List.cons.injEq, and_true] at q1
  refine ⟨?_, q2, q3⟩
  rw [e1, q1.1, q1.2.1, q1.2.2]
  cases y
  simp only at z1 z2 z3 hk ⊢
  rw [z1, z2, z3, hk]
theorem NotP.two {n : Int} {E1 : List Int} {o1 : Bool} {ts : List Int} (h : HedP D ok s 2 E o) (hn : NumP E o n E1 o1) (hs : SeqP E1 o1 ts D' ok') (hl : ts.length + D'.length ≤ E1.length + 1) (h1 : (ts.length : Int) ≤ n ∨ ts.length = 0) (h2 : n ≤ ts.length ∨ ok' = false) :
    NotP D ok ⟨s, 2, 0, 0, ts, 0, 0, 0⟩ D' ok' := by
  obtain ⟨g1, g2, g3, g4, g5⟩ := h
  obtain ⟨_, _, n3, _, n5, n6⟩ := hn
  obtain ⟨s1, s2, s3⟩ := hs
  refine ⟨g1, by simp; omega, fun h => g3 (n3 (s1 h)), by omega, fun y L hy he ho => ?_⟩
  obtain ⟨e1, e2, e3, e4⟩ := g5 y L hy he ho
  have hk : y.kind = 2 := by omega
  obtain ⟨⟨z1, z2, z3, z4, z5⟩, ⟨l1, l2⟩, hb⟩ := ntOk_2 hy hk
  rw [nu2 hk, pkA_cons1, List.append_assoc] at e3
  obtain ⟨q1, q2, q3⟩ := n6 (y.terms.length : Int) _ (by omega) (by omega) e3 e4
  have hle : ts.length ≤ y.terms.length := by omega
  have e5 : E1 = pkA (y.terms.take ts.length) ++ (pkA (y.terms.drop ts.length) ++ L) := by
    rw [q2, ← List.append_assoc, ← pkA_app, List.take_append_drop]
  obtain ⟨r1, r2, r3⟩ := s3 _ _ (fun m hm => hb m (List.mem_of_mem_take hm)) (by rw [List.length_take]; omega) e5 q3
  have hge : y.terms.length ≤ ts.length := by
    rcases h2 with h2 | h2
    · omega
    · rw [r3] at h2; cases h2
  have hT : ts = y.terms := by rw [r1, List.take_of_length_le (by omega)]
  refine ⟨?_, by rw [r2, List.drop_of_length_le hge]; simp [pkA], r3⟩
  rw [e1, hT]
  cases y
  simp only at z1 z2 z3 z4 z5 hk ⊢
  rw [z1, z2, z3, z4, z5, hk]
theorem NotP.other {k : Nat} {x : Nt} (h : HedP D ok s k E o) (hk : k ≠ 1 ∧ k ≠ 2 ∧ k ≠ 3) (h1 : x.name.size ≤ 255) (h2 : x.terms.length = 0) (h3 : ok' = true → o = true) (h4 : D'.length ≤ E.length) : NotP D ok x D' ok' := by
  obtain ⟨g1, g2, g3, g4, g5⟩ := h
  refine ⟨h1, by omega, fun h => g3 (h3 h), by omega, fun y L hy he ho => ?_⟩
  obtain ⟨e1, e2, e3, e4⟩ := g5 y L hy he ho
  have := (ntOk_bds hy).2
  omega
theorem NotP.fail {c : Nat} {D1 : List Int} {o1 : Bool} (hb : BytP D ok c D1 o1) (h : o1 = false ∨ D1.length < c) : NotP D ok ⟨⟨#[]⟩, 0, 0, 0, [], 0, 0, 0⟩ D1 false := by
  obtain ⟨b1, b2, b3⟩ := hb.len
  refine ⟨Nat.zero_le _, by simp; omega, by simp, b1, fun y L hy he ho => ?_⟩
  unfold noteB at he
  simp only [List.append_assoc, List.cons_append, List.nil_append] at he
  obtain ⟨e1, e2, e3⟩ := hb.hit he ho
  rcases h with h | h
  · rw [h] at e3; cases e3
  · have := congrArg List.length e2
    rw [List.length_append, byI_length] at this
    omega
end
end Go.Proofs.YtbcikkaoohihhaaGreatDoor
