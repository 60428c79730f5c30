/- Law: notes are compared as their numbers, and the terms of a fraction and of its terms are the same. No condition. -/
import Derived.Test.YtkimmahmbacjpaaBytesW
import Derived.Test.YtkimmahmbacjpaaF6W
import Derived.Test.YtkimmahmbacjpaaDrawTnW
import Derived.Test.YtkimmahmbacjpaaExpC
import Derived.Test.YtkimmahmbacjpaaCmpNY
import Derived.Test.YtkimmahmbacjpaaMgTn
import Derived.Deep.DeepCutAuto
namespace Go.Proofs.Ytkimmahmbacjpaa.fnNoteValues
open Go.ChangeShapes Go.WideShapes Go.ChangeAt Go.RowKit Go.Sort
open Go.ChangeMaps (open_string shut_string)

theorem rd_next {α : Type} {enc : α → Value} {W W' : World} {A : Option Addr} {xs : List α} (h : Rd enc W W.heap.size A xs) (hb : Below W.heap.size W W') : Rd enc W' W'.heap.size A xs := (h.below hb).more hb.size
theorem f6same (A B : Option Addr) (c d : Nat) (xs : List Int) (w : World) (hx : Rd (Value.int .i64) w w.heap.size A xs) (hy : Rd (Value.int .i64) w w.heap.size B xs) (hm : xs.length ≤ 1000000) :
    Calls Try.prog 17 #[.slice A xs.length c, .slice B xs.length d] w fun e w' => e = .returned (.bool true) ∧ Below w.heap.size w w' := by
  have h := f6ints_any A B c d xs xs w hx hy (by unfold maxLen; omega) (by unfold maxLen; omega)
  simpa using h
theorem rd_takeL {α : Type} {enc : α → Value} {W : World} {B : Nat} {A : Option Addr} {xs : List α} (h : Rd enc W B A xs) (m : Nat) : Rd enc W B A (xs.take m) := fun hn => by
  have h0 : 0 < xs.length := by rw [List.length_take] at hn; omega
  obtain ⟨b, off, e, hb, hc⟩ := h h0
  refine ⟨b, off, e, hb, fun j x hx => hc j x ?_⟩
  rw [List.getElem?_take] at hx
  split at hx
  · exact hx
  · cases hx
theorem fstF_fin (L : List Int) : ∀ n k, fstF (tmS ⟨L, [], []⟩) n k = (L.drop k).take n
  | 0, k => by simp [fstF]
  | n + 1, k => by
    unfold fstF
    by_cases h : k < L.length
    · have e : tmS ⟨L, [], []⟩ k = some (L.getD k 0) := by unfold tmS; rw [if_pos h]
      rw [e]
      show L.getD k 0 :: fstF _ n (k + 1) = _
      rw [fstF_fin L n (k + 1), List.drop_eq_getElem_cons h, List.take_succ_cons]
      congr 1
      simp [List.getD, List.getElem?_eq_getElem h]
    · have e : tmS ⟨L, [], []⟩ k = none := by unfold tmS; rw [if_neg h]; rfl
      rw [e, List.drop_eq_nil_of_le (by omega)]
      rfl
theorem cmpF_swap (f g : Nat → Option Int) : ∀ n k, cmpF g f n k = (-(cmpF f g n k).1, (cmpF f g n k).2)
  | 0, _ => by simp [cmpF]
  | n + 1, k => by
    unfold cmpF
    cases hf : f k with
    | none => cases hg : g k with
      | none => simp
      | some b => simp
    | some a => cases hg : g k with
      | none => simp
      | some b =>
        show (if b < a then _ else if a < b then _ else _) = _
        rcases Int.lt_trichotomy a b with h | h | h
        · rw [if_neg (by omega), if_pos h]
          simp [h]
        · subst h
          simp only [Int.lt_irrefl, if_false]
          exact cmpF_swap f g n (k + 1)
        · rw [if_pos h]
          have : ¬ a < b := by omega
          simp [this, h]
theorem cmpF_one (f g : Nat → Option Int) : ∀ n k, -1 ≤ (cmpF f g n k).1 ∧ (cmpF f g n k).1 ≤ 1
  | 0, _ => by simp [cmpF]
  | n + 1, k => by
    have := sgK_bd k
    unfold cmpF
    split
    · simp
    · simp only; omega
    · simp only; omega
    · split
      · simp only; omega
      · split
        · simp only; omega
        · exact cmpF_one f g n (k + 1)
theorem cnR_swap (x y : Nt) : cnR y x = (-(cnR x y).1, (cnR x y).2) := by
  unfold cnR
  rw [Bool.and_comm (ntOk y)]
  split
  · by_cases h : ntCd x = 0 ∧ ntCd y = 0
    · rw [if_pos h, if_pos h.symm]
      exact cmpF_swap _ _ _ _
    · rw [if_neg h, if_neg (fun h' => h h'.symm)]
      rfl
  · rfl
theorem cnR_one (x y : Nt) : -1 ≤ (cnR x y).1 ∧ (cnR x y).1 ≤ 1 := by
  unfold cnR
  split
  · split
    · exact cmpF_one _ _ _ _
    · simp
  · simp
theorem values (x : Nt) (q : Int) (hf : x.fits) : ∃ (ts : List Int) (k : Int), Hid (∀ (T : Option Addr) (c : Nat) W, RdT W W.heap.size T c x.terms → Calls Try.prog 12 #[ntV x.name x.kind x.num x.den T x.terms.length c x.sp x.sd x.sq, .int .i64 q] W (RetInts W ts k)) ∧
    Hid (∀ (T : Option Addr) (c : Nat) W, RdT W W.heap.size T c x.terms → Calls Try.prog 13 #[ntV x.name x.kind x.num x.den T x.terms.length c x.sp x.sd x.sq, .int .i64 q] W (RetInts W ts k)) ∧ ts.length ≤ 200 ∧
    Hid (k = 0 → x.kind = 1 → fracOk x.num x.den = true ∧ ts = (termsOf x.num x.den).take ts.length) := by
  refine ⟨_, _, fun T c W h => iTermsOfNote_any x T c q W h hf, fun T c W h => sTermsOfNote_any x T c q W h hf, ?_, ?_⟩
  · unfold tnX
    split
    · rename_i h
      have := fstF_len (tmS (ntSo x)) q.toNat 0
      unfold tnC at h
      split at h
      · split at h
        · rename_i h2
          have := inR_true.1 h2
          omega
        · cases h
      · cases h
    · simp
  · intro h hk
    have h0 := h
    unfold tnC at h
    split at h
    · rename_i h2
      rcases nt_kinds h2 with ⟨_, h3⟩ | ⟨h3, _⟩ | ⟨h3, _⟩
      · refine ⟨h3, ?_⟩
        have e : tnX x q = (termsOf x.num x.den).take q.toNat := by
          unfold tnX ntSo
          rw [if_pos h0, if_pos hk, fstF_fin, List.drop_zero]
        rw [e, List.length_take, ← List.take_take, List.take_length]
      · omega
      · omega
    · cases h
theorem compares (x y : Nt) (hx : x.fits) (hy : y.fits) : ∃ s k : Int,
    Hid (∀ (T U : Option Addr) (c d : Nat) W, RdT W W.heap.size T c x.terms → RdT W W.heap.size U d y.terms → Calls Try.prog 15 #[ntV x.name x.kind x.num x.den T x.terms.length c x.sp x.sd x.sq, ntV y.name y.kind y.num y.den U y.terms.length d y.sp y.sd y.sq] W fun e w' => e = .returned (.tuple #[.int .i64 s, .int .i64 k]) ∧ Below W.heap.size W w') ∧
    Hid (∀ (T U : Option Addr) (c d : Nat) W, RdT W W.heap.size T c x.terms → RdT W W.heap.size U d y.terms → Calls Try.prog 16 #[ntV x.name x.kind x.num x.den T x.terms.length c x.sp x.sd x.sq, ntV y.name y.kind y.num y.den U y.terms.length d y.sp y.sd y.sq] W fun e w' => e = .returned (.tuple #[.int .i64 s, .int .i64 k]) ∧ Below W.heap.size W w') ∧
    Hid (∀ (T U : Option Addr) (c d : Nat) W, RdT W W.heap.size T c x.terms → RdT W W.heap.size U d y.terms → Calls Try.prog 15 #[ntV y.name y.kind y.num y.den U y.terms.length d y.sp y.sd y.sq, ntV x.name x.kind x.num x.den T x.terms.length c x.sp x.sd x.sq] W fun e w' => e = .returned (.tuple #[.int .i64 (-s), .int .i64 k]) ∧ Below W.heap.size W w') ∧ -1 ≤ s ∧ s ≤ 1 := by
  refine ⟨_, _, fun T U c d W h1 h2 => iCompareNotes_any x y T U c d W h1 h2 hx hy, fun T U c d W h1 h2 => sCompareNotes_any x y T U c d W h1 h2 hx hy, fun T U c d W h1 h2 => ?_, cnR_one x y⟩
  have h := iCompareNotes_any y x U T d c W h2 h1 hy hx
  rwa [cnR_swap x y] at h
/-- A note in a box of the law's own. -/
structure Nb (b : Nat) (x : Nt) (A : Option Addr) (c : Nat) (W : World) : Prop where
  s : BoxV b (ntL x (.slice A x.terms.length c)) W
  r : RdT W W.heap.size A c x.terms
theorem Nb.next {b : Nat} {x : Nt} {A : Option Addr} {c : Nat} {W W' : World} (h : Nb b x A c W) (hb : Below W.heap.size W W') : Nb b x A c W' := ⟨h.s.next hb, (h.r.below hb).more hb.size⟩
theorem small_fits {x : Nt} (h : x.name.size ≤ 10 ∧ x.terms.length ≤ 10) : x.fits := by
  unfold Nt.fits maxLen
  omega
set_option maxRecDepth 100000 in
set_option maxHeartbeats 8000000 in
theorem walkG (A : Option Addr) (n c : Nat) (w : World) (h : Bytes w A n) (hn : n ≤ 4096) :
    Calls Try.prog 4 #[.slice A n c] w fun e w' => e = .returned (.bool true) ∧ Below w.heap.size w w' := by
  have By := Lib.hid h
  have HE := Lib.hid (Below.refl w.heap.size w)
  have hf : ¬ 4096 < (n : Int) := by omega
  have hf6 : Hid (∀ W, Calls Try.prog 10 #[.slice A n c] W fun e w' => e = .returned (.bool false) ∧ W = w') := fun W => by
    have h := f6big_any A n c W
    rwa [decide_eq_false hf] at h
  clear h hn hf
  go_enter Try.func4, Try.ntmps4
  go_wp2_with fail
  refine (hf6.out _).mono ?_
  rintro e w' ⟨rfl, rfl⟩
  go_wp2_with fail
  refine (drawTermsOfNote_any A n c _ By.out).mono ?_
  rintro e w1 ⟨x, T, cT, q, rfl, hxs, hxt, hT, hb⟩
  obtain ⟨ts, k1, HT1, HT2, htl, HK⟩ := values x q (small_fits ⟨hxs, hxt⟩)
  have hfx := Lib.hid (small_fits ⟨hxs, hxt⟩)
  replace HE := Lib.hid (ext_trans HE.out hb)
  replace By := Lib.hid (By.out.next hb)
  have X : Hid (Nb w1.heap.size x T cT (w1.alloc (.cells #[.string x.name, .int .i64 x.kind, .int .i64 x.num, .int .i64 x.den, .slice T x.terms.length cT, .int .i64 x.sp, .int .i64 x.sd, .int .i64 x.sq] 36))) := ⟨BoxV.new _ _ _, (hT.below (ext1 _ _)).more (ext1 _ _).size⟩
  have hb := ext1 w1 (.cells #[.string x.name, .int .i64 x.kind, .int .i64 x.num, .int .i64 x.den, .slice T x.terms.length cT, .int .i64 x.sp, .int .i64 x.sd, .int .i64 x.sq] 36)
  replace HE := Lib.hid (ext_trans HE.out hb)
  replace By := Lib.hid (By.out.next hb)
  clear hb hT hxs hxt
  have p0 := X.out.s.at 0 _ rfl
  have p1 := X.out.s.at 1 _ rfl
  have p2 := X.out.s.at 2 _ rfl
  have p3 := X.out.s.at 3 _ rfl
  have p4 := X.out.s.at 4 _ rfl
  have p5 := X.out.s.at 5 _ rfl
  have p6 := X.out.s.at 6 _ rfl
  have p7 := X.out.s.at 7 _ rfl
  go_wp2_with fail
  generalize w1.alloc (.cells #[.string x.name, .int .i64 x.kind, .int .i64 x.num, .int .i64 x.den, .slice T x.terms.length cT, .int .i64 x.sp, .int .i64 x.sd, .int .i64 x.sq] 36) = W1 at *
  generalize w1.heap.size = b at *
  refine (HT1.out _ _ _ X.out.r).mono ?_
  rintro e w2 ⟨A1, c1, rfl, hw, hb⟩
  replace HE := Lib.hid (ext_trans HE.out hb)
  replace By := Lib.hid (By.out.next hb)
  replace X := Lib.hid (X.out.next hb)
  have D1 := Lib.hid hw.rd
  clear hb hw p0 p1 p2 p3 p4 p5 p6 p7
  have p0 := X.out.s.at 0 _ rfl
  have p1 := X.out.s.at 1 _ rfl
  have p2 := X.out.s.at 2 _ rfl
  have p3 := X.out.s.at 3 _ rfl
  have p4 := X.out.s.at 4 _ rfl
  have p5 := X.out.s.at 5 _ rfl
  have p6 := X.out.s.at 6 _ rfl
  have p7 := X.out.s.at 7 _ rfl
  go_wp2_with fail
  refine (HT2.out _ _ _ X.out.r).mono ?_
  rintro e w3 ⟨A2, c2, rfl, hw, hb⟩
  replace HE := Lib.hid (ext_trans HE.out hb)
  replace By := Lib.hid (By.out.next hb)
  replace X := Lib.hid (X.out.next hb)
  replace D1 := Lib.hid (rd_next D1.out hb)
  have D2 := Lib.hid hw.rd
  clear hb hw p0 p1 p2 p3 p4 p5 p6 p7
  go_wp2_with fail
  refine (drawCompareNotes_any A n c _ By.out).mono ?_
  rintro e w4 ⟨y, z, U, V, cU, cV, rfl, hys, hzs, hU, hV, hb⟩
  obtain ⟨s, k2, HC1, HC2, HC3, s1, s2⟩ := compares y z (small_fits hys) (small_fits hzs)
  replace HE := Lib.hid (ext_trans HE.out hb)
  replace By := Lib.hid (By.out.next hb)
  replace X := Lib.hid (X.out.next hb)
  replace D1 := Lib.hid (rd_next D1.out hb)
  replace D2 := Lib.hid (rd_next D2.out hb)
  have hb1 := ext1 w4 (.cells #[.string y.name, .int .i64 y.kind, .int .i64 y.num, .int .i64 y.den, .slice U y.terms.length cU, .int .i64 y.sp, .int .i64 y.sd, .int .i64 y.sq] 36)
  have hb2 := ext1 (w4.alloc (.cells #[.string y.name, .int .i64 y.kind, .int .i64 y.num, .int .i64 y.den, .slice U y.terms.length cU, .int .i64 y.sp, .int .i64 y.sd, .int .i64 y.sq] 36)) (.cells #[.string z.name, .int .i64 z.kind, .int .i64 z.num, .int .i64 z.den, .slice V z.terms.length cV, .int .i64 z.sp, .int .i64 z.sd, .int .i64 z.sq] 36)
  have P : Hid (Nb w4.heap.size y U cU ((w4.alloc (.cells #[.string y.name, .int .i64 y.kind, .int .i64 y.num, .int .i64 y.den, .slice U y.terms.length cU, .int .i64 y.sp, .int .i64 y.sd, .int .i64 y.sq] 36)).alloc (.cells #[.string z.name, .int .i64 z.kind, .int .i64 z.num, .int .i64 z.den, .slice V z.terms.length cV, .int .i64 z.sp, .int .i64 z.sd, .int .i64 z.sq] 36))) := ⟨(BoxV.new _ _ _).next hb2, (hU.below (ext_trans hb1 hb2)).more (ext_trans hb1 hb2).size⟩
  have Q : Hid (Nb (w4.heap.size + 1) z V cV ((w4.alloc (.cells #[.string y.name, .int .i64 y.kind, .int .i64 y.num, .int .i64 y.den, .slice U y.terms.length cU, .int .i64 y.sp, .int .i64 y.sd, .int .i64 y.sq] 36)).alloc (.cells #[.string z.name, .int .i64 z.kind, .int .i64 z.num, .int .i64 z.den, .slice V z.terms.length cV, .int .i64 z.sp, .int .i64 z.sd, .int .i64 z.sq] 36))) := by
    have h := BoxV.new (w4.alloc (.cells #[.string y.name, .int .i64 y.kind, .int .i64 y.num, .int .i64 y.den, .slice U y.terms.length cU, .int .i64 y.sp, .int .i64 y.sd, .int .i64 y.sq] 36)) #[.string z.name, .int .i64 z.kind, .int .i64 z.num, .int .i64 z.den, .slice V z.terms.length cV, .int .i64 z.sp, .int .i64 z.sd, .int .i64 z.sq] 36
    simp only [World.size_alloc] at h
    exact ⟨h, (hV.below (ext_trans hb1 hb2)).more (ext_trans hb1 hb2).size⟩
  have hb := ext_trans hb1 hb2
  replace HE := Lib.hid (ext_trans HE.out hb)
  replace By := Lib.hid (By.out.next hb)
  replace X := Lib.hid (X.out.next hb)
  replace D1 := Lib.hid (rd_next D1.out hb)
  replace D2 := Lib.hid (rd_next D2.out hb)
  clear hb hb1 hb2 hU hV hys hzs
  have q0 := P.out.s.at 0 _ rfl
  have o0 := Q.out.s.at 0 _ rfl
  have q1 := P.out.s.at 1 _ rfl
  have o1 := Q.out.s.at 1 _ rfl
  have q2 := P.out.s.at 2 _ rfl
  have o2 := Q.out.s.at 2 _ rfl
  have q3 := P.out.s.at 3 _ rfl
  have o3 := Q.out.s.at 3 _ rfl
  have q4 := P.out.s.at 4 _ rfl
  have o4 := Q.out.s.at 4 _ rfl
  have q5 := P.out.s.at 5 _ rfl
  have o5 := Q.out.s.at 5 _ rfl
  have q6 := P.out.s.at 6 _ rfl
  have o6 := Q.out.s.at 6 _ rfl
  have q7 := P.out.s.at 7 _ rfl
  have o7 := Q.out.s.at 7 _ rfl
  go_wp2_with fail
  generalize (w4.alloc (.cells #[.string y.name, .int .i64 y.kind, .int .i64 y.num, .int .i64 y.den, .slice U y.terms.length cU, .int .i64 y.sp, .int .i64 y.sd, .int .i64 y.sq] 36)).alloc (.cells #[.string z.name, .int .i64 z.kind, .int .i64 z.num, .int .i64 z.den, .slice V z.terms.length cV, .int .i64 z.sp, .int .i64 z.sd, .int .i64 z.sq] 36) = W4 at *
  generalize w4.heap.size = g at *
  refine (HC1.out _ _ _ _ _ P.out.r Q.out.r).mono ?_
  rintro e w5 ⟨rfl, hb⟩
  replace HE := Lib.hid (ext_trans HE.out hb)
  replace By := Lib.hid (By.out.next hb)
  replace X := Lib.hid (X.out.next hb)
  replace D1 := Lib.hid (rd_next D1.out hb)
  replace D2 := Lib.hid (rd_next D2.out hb)
  replace P := Lib.hid (P.out.next hb)
  replace Q := Lib.hid (Q.out.next hb)
  clear hb q0 o0 q1 o1 q2 o2 q3 o3 q4 o4 q5 o5 q6 o6 q7 o7
  have q0 := P.out.s.at 0 _ rfl
  have o0 := Q.out.s.at 0 _ rfl
  have q1 := P.out.s.at 1 _ rfl
  have o1 := Q.out.s.at 1 _ rfl
  have q2 := P.out.s.at 2 _ rfl
  have o2 := Q.out.s.at 2 _ rfl
  have q3 := P.out.s.at 3 _ rfl
  have o3 := Q.out.s.at 3 _ rfl
  have q4 := P.out.s.at 4 _ rfl
  have o4 := Q.out.s.at 4 _ rfl
  have q5 := P.out.s.at 5 _ rfl
  have o5 := Q.out.s.at 5 _ rfl
  have q6 := P.out.s.at 6 _ rfl
  have o6 := Q.out.s.at 6 _ rfl
  have q7 := P.out.s.at 7 _ rfl
  have o7 := Q.out.s.at 7 _ rfl
  go_wp2_with fail
  refine (HC2.out _ _ _ _ _ P.out.r Q.out.r).mono ?_
  rintro e w6 ⟨rfl, hb⟩
  replace HE := Lib.hid (ext_trans HE.out hb)
  replace By := Lib.hid (By.out.next hb)
  replace X := Lib.hid (X.out.next hb)
  replace D1 := Lib.hid (rd_next D1.out hb)
  replace D2 := Lib.hid (rd_next D2.out hb)
  replace P := Lib.hid (P.out.next hb)
  replace Q := Lib.hid (Q.out.next hb)
  clear hb q0 o0 q1 o1 q2 o2 q3 o3 q4 o4 q5 o5 q6 o6 q7 o7
  have q0 := P.out.s.at 0 _ rfl
  have o0 := Q.out.s.at 0 _ rfl
  have q1 := P.out.s.at 1 _ rfl
  have o1 := Q.out.s.at 1 _ rfl
  have q2 := P.out.s.at 2 _ rfl
  have o2 := Q.out.s.at 2 _ rfl
  have q3 := P.out.s.at 3 _ rfl
  have o3 := Q.out.s.at 3 _ rfl
  have q4 := P.out.s.at 4 _ rfl
  have o4 := Q.out.s.at 4 _ rfl
  have q5 := P.out.s.at 5 _ rfl
  have o5 := Q.out.s.at 5 _ rfl
  have q6 := P.out.s.at 6 _ rfl
  have o6 := Q.out.s.at 6 _ rfl
  have q7 := P.out.s.at 7 _ rfl
  have o7 := Q.out.s.at 7 _ rfl
  go_wp2_with fail
  refine (HC3.out _ _ _ _ _ P.out.r Q.out.r).mono ?_
  rintro e w7 ⟨rfl, hb⟩
  replace HE := Lib.hid (ext_trans HE.out hb)
  replace By := Lib.hid (By.out.next hb)
  replace X := Lib.hid (X.out.next hb)
  replace D1 := Lib.hid (rd_next D1.out hb)
  replace D2 := Lib.hid (rd_next D2.out hb)
  clear hb q0 o0 q1 o1 q2 o2 q3 o3 q4 o4 q5 o5 q6 o6 q7 o7 P Q
  have u1 : IntKind.i64.wrap (-s) = -s := IntWalk.i64_in _ (by omega)
  have p0 := X.out.s.at 0 _ rfl
  have p1 := X.out.s.at 1 _ rfl
  have p2 := X.out.s.at 2 _ rfl
  have p3 := X.out.s.at 3 _ rfl
  have p4 := X.out.s.at 4 _ rfl
  have p5 := X.out.s.at 5 _ rfl
  have p6 := X.out.s.at 6 _ rfl
  have p7 := X.out.s.at 7 _ rfl
  go_wp2_with fail
  refine (f6same A1 A2 c1 c2 ts _ D1.out D2.out (by omega)).mono ?_
  rintro e w8 ⟨rfl, hb⟩
  replace HE := Lib.hid (ext_trans HE.out hb)
  replace By := Lib.hid (By.out.next hb)
  replace X := Lib.hid (X.out.next hb)
  replace D1 := Lib.hid (rd_next D1.out hb)
  replace D2 := Lib.hid (rd_next D2.out hb)
  clear hb p0 p1 p2 p3 p4 p5 p6 p7
  by_cases h2 : k2 = 0
  · skip
    have p0 := X.out.s.at 0 _ rfl
    have p1 := X.out.s.at 1 _ rfl
    have p2 := X.out.s.at 2 _ rfl
    have p3 := X.out.s.at 3 _ rfl
    have p4 := X.out.s.at 4 _ rfl
    have p5 := X.out.s.at 5 _ rfl
    have p6 := X.out.s.at 6 _ rfl
    have p7 := X.out.s.at 7 _ rfl
    have hk1 : ¬ (k1 = 0 ∧ x.kind = 1) ∨ (k1 = 0 ∧ x.kind = 1) := by
      by_cases h : k1 = 0 ∧ x.kind = 1
      · exact .inr h
      · exact .inl h
    rcases hk1 with hk1 | hk1
    · by_cases hz : k1 = 0
      · have hx1 : (x.kind != 1) = true := by simp; exact fun h => hk1 ⟨hz, h⟩
        go_wp2
        go_ret
        exact ⟨rfl, HE.out⟩
      · go_wp2
        go_ret
        exact ⟨rfl, HE.out⟩
    · obtain ⟨hz, hx1⟩ := hk1
      obtain ⟨hfo, hts⟩ := HK.out hz hx1
      have HX := Lib.hid (fun W : World => iExpand_some x.num x.den W hfo)
      generalize termsOf x.num x.den = L at *
      have hle : ts.length ≤ L.length := by
        have := congrArg List.length hts
        rw [List.length_take] at this
        omega
      have HTS := Lib.hid hts
      clear hts hfo HK
      go_wp2_with fail
      refine (HX.out _).mono ?_
      rintro e w9 ⟨A3, c3, rfl, hw, ⟨hc, hcm⟩, hb⟩
      replace HE := Lib.hid (ext_trans HE.out hb)
      replace D1 := Lib.hid (rd_next D1.out hb)
      have D3 : Hid (Rd (Value.int .i64) w9 w9.heap.size A3 ts) := by
        have h := rd_takeL hw.rd ts.length
        rw [← HTS.out] at h
        exact h
      have hle2 : ts.length ≤ c3 := by omega
      have hle3 : ¬ (L.length : Int) < (ts.length : Int) := by omega
      clear hb hw p0 p1 p2 p3 p4 p5 p6 p7
      go_wp2_with fail
      refine (f6same A1 A3 c1 _ ts _ D1.out D3.out (by omega)).mono ?_
      rintro e w10 ⟨rfl, hb⟩
      replace HE := Lib.hid (ext_trans HE.out hb)
      go_wp2
      go_ret
      exact ⟨rfl, HE.out⟩
  · skip
    have p0 := X.out.s.at 0 _ rfl
    have p1 := X.out.s.at 1 _ rfl
    have p2 := X.out.s.at 2 _ rfl
    have p3 := X.out.s.at 3 _ rfl
    have p4 := X.out.s.at 4 _ rfl
    have p5 := X.out.s.at 5 _ rfl
    have p6 := X.out.s.at 6 _ rfl
    have p7 := X.out.s.at 7 _ rfl
    have hk1 : ¬ (k1 = 0 ∧ x.kind = 1) ∨ (k1 = 0 ∧ x.kind = 1) := by
      by_cases h : k1 = 0 ∧ x.kind = 1
      · exact .inr h
      · exact .inl h
    rcases hk1 with hk1 | hk1
    · by_cases hz : k1 = 0
      · have hx1 : (x.kind != 1) = true := by simp; exact fun h => hk1 ⟨hz, h⟩
        go_wp2
        go_ret
        exact ⟨rfl, HE.out⟩
      · go_wp2
        go_ret
        exact ⟨rfl, HE.out⟩
    · obtain ⟨hz, hx1⟩ := hk1
      obtain ⟨hfo, hts⟩ := HK.out hz hx1
      have HX := Lib.hid (fun W : World => iExpand_some x.num x.den W hfo)
      generalize termsOf x.num x.den = L at *
      have hle : ts.length ≤ L.length := by
        have := congrArg List.length hts
        rw [List.length_take] at this
        omega
      have HTS := Lib.hid hts
      clear hts hfo HK
      go_wp2_with fail
      refine (HX.out _).mono ?_
      rintro e w9 ⟨A3, c3, rfl, hw, ⟨hc, hcm⟩, hb⟩
      replace HE := Lib.hid (ext_trans HE.out hb)
      replace D1 := Lib.hid (rd_next D1.out hb)
      have D3 : Hid (Rd (Value.int .i64) w9 w9.heap.size A3 ts) := by
        have h := rd_takeL hw.rd ts.length
        rw [← HTS.out] at h
        exact h
      have hle2 : ts.length ≤ c3 := by omega
      have hle3 : ¬ (L.length : Int) < (ts.length : Int) := by omega
      clear hb hw p0 p1 p2 p3 p4 p5 p6 p7
      go_wp2_with fail
      refine (f6same A1 A3 c1 _ ts _ D1.out D3.out (by omega)).mono ?_
      rintro e w10 ⟨rfl, hb⟩
      replace HE := Lib.hid (ext_trans HE.out hb)
      go_wp2
      go_ret
      exact ⟨rfl, HE.out⟩
theorem walk (A : Option Addr) (l c : Nat) (z : List Int) (w : World) (hx : IsRow .u8 w A l c z) :
    Calls Try.prog 4 #[.slice A l c] w fun e w' => e = .returned (.bool true) ∧ Below w.heap.size w w' := by
  by_cases h : l ≤ 4096
  · exact walkG A l c w (hx.bytes (by omega)) h
  · have hf : 4096 < (l : Int) := by omega
    have hf6 : Hid (∀ W, Calls Try.prog 10 #[.slice A l c] W fun e w' => e = .returned (.bool true) ∧ W = w') := fun W => by
      have h := f6big_any A l c W
      rwa [decide_eq_true hf] at h
    clear hx hf h
    go_enter Try.func4, Try.ntmps4
    go_wp2_with fail
    refine (hf6.out _).mono ?_
    rintro e w' ⟨rfl, rfl⟩
    go_wp2
    go_ret
    exact ⟨rfl, Below.refl _ _⟩

theorem own : ownKnob Try.prog.godebug = none := by kernel_rfl
theorem laidOut : laidOutB Try.prog = true := by kernel_rfl
set_option linter.unusedVariables false in
set_option maxRecDepth 100000 in
theorem lifted (os : Os) (started : os.Started) (H : Type) (enc : TypeId × Value → H) :
    ReturnsInHanded {} Try.checked os 4 .any (Rows.fnNoteValuesSpec.pre6 enc Try.prog Try.f4 Rows.fnNoteValuesRow.domain false) (Rows.fnNoteValuesSpec.post enc Try.prog Try.f4 false true false false) := by
  refine returnsInHanded_of_change (C := Try.checked) own started (by kernel_rfl) Try.func4
    (ChangeSpec.witness6 (enc := enc) (C := Try.checked) false ⟨#[], #[.slice none 0 0], []⟩ 8 (by kernel_rfl) (by kernel_rfl) (by kernel_rfl) (by kernel_rfl)) ?_
  intro W base args ds gs before hval0 hW hcnd _
  have hval : ∀ (j : Nat) t v, Try.f4.params[j]? = some t → args[j]? = some v → Value.okWide Try.prog W .any base t v := hval0
  have hW' := hW
  obtain ⟨p, q, hA0, hV, rfl, hfz, hnd⟩ := hW
  have hA : DataW.TrodAll enc Try.prog W 0 (fun _ => true) true Try.f4.params.toList args.toList ds p := hA0
  rw [Try.params4] at hA hval
  obtain ⟨v0, vs0, d0, ds0, p0, q0, hargs, rfl, rfl, h0, r0⟩ := trodAll_cons hA
  obtain ⟨rfl, rfl, rfl⟩ := trodAll_nil r0
  obtain rfl : args = #[v0] := by cases args; simp_all
  obtain ⟨rfl, rfl⟩ := trodVars_none hV
  have k0 := h0
  have lt0 : ∀ x ∈ p0, x.block < W.heap.size := by obtain ⟨m, hm⟩ := k0; exact DataW.trod_lt m _ _ _ hm
  obtain ⟨A0, l0, c0, rfl⟩ := okWide_slice Try.underlying28 (hval 0 28 v0 rfl rfl)
  obtain ⟨z0, w0⟩ : ∃ zs, IsRow .u8 W A0 l0 c0 zs := isRow_arg Try.underlying28 Try.underlying5 (by kernel_rfl) h0
  clear hA0 hval0
  refine (walk A0 l0 c0 z0 W w0).mono fun e W' ⟨he, bel⟩ => ?_
  subst he
  exact ⟨_, rfl, _, _, _, [], _, [], hW', trodAll_mk1 (shut_bool Try.underlying4 _), (trodAll_cons_mk (Below.trod laidOut (by kernel_rfl) (of_decide_eq_true (by kernel_rfl)) k0 bel lt0) trodAll_mk0), rfl, bel.frame _, fun h => by cases h⟩

theorem jPlace : (Rows.fnNoteValuesRow.inPlace == Try.prog.inPlace 4) = true := by kernel_rfl
theorem jFollow : (Rows.fnNoteValuesRow.unfollowed == Try.prog.unfollowed 4) = true := by kernel_rfl
theorem jRecurse : (Rows.fnNoteValuesRow.recurses == Try.prog.recurses 4) = true := by kernel_rfl
theorem jNamed : (Rows.fnNoteValuesRow.named == Try.prog.varsNamed 4) = true := by kernel_rfl
theorem joined : joinedFacts Try.prog 4 Try.f4 Rows.fnNoteValuesSpec Rows.fnNoteValuesRow = true :=
  joined_of (by kernel_rfl) (by kernel_rfl) (by kernel_rfl) (by kernel_rfl) (by kernel_rfl) jPlace jFollow jRecurse jNamed (by kernel_rfl) (by kernel_rfl) (by kernel_rfl) (by kernel_rfl) (by kernel_rfl) (by kernel_rfl) (by kernel_rfl) (by kernel_rfl) (by kernel_rfl) rfl rfl rfl rfl rfl rfl (by kernel_rfl) (by kernel_rfl) (by kernel_rfl)
theorem over : Rows.fnNoteValuesRow.holds Try.pinned (OpenSpec.ofChange Rows.fnNoteValuesSpec) :=
  OpenClaim.holds_of_wide 4 Try.f4 rfl rfl rfl rfl rfl rfl rfl ⟨rfl, rfl, rfl, rfl, rfl⟩ rfl rfl rfl rfl rfl (by kernel_rfl) Try.func4 joined
    (of_decide_eq_true (by kernel_rfl)) (by unfold Func.isWrapper; first | (rw [if_pos (by decide +kernel)]; kernel_rfl) | (rw [if_neg (by decide +kernel)]; exact ⟨rfl, rfl⟩))
    (fun os started H enc _ => lifted os started H enc)

theorem proved : Rows.FnNoteValuesSaid := over
#print axioms proved
end Go.Proofs.Ytkimmahmbacjpaa.fnNoteValues
