/- Parts of the proof, merged: FdP BdP SideW SideS FdW FdqW. No condition but those that each theorem names. -/
import Derived.Test.YtjgafjbccfjojaaGreatMgAJ
import Derived.Test.YtjgafjbccfjojaaGreatMgAK
import Derived.Test.YtjgafjbccfjojaaGreatMgAB
import Derived.Deep.RegionHeld3
import Derived.Test.YtjgafjbccfjojaaGreatMgAA
import Derived.Deep.DeepMust
import Derived.Test.YtjgafjbccfjojaaGreatMgAE
namespace Go.Proofs.YtjgafjbccfjojaaGreat
open Go.RowKit Go.Sort
/-- The rest behind k digits, and the digits. -/
def rsF (base den r : Int) : Nat → Int
  | 0 => r
  | k + 1 => rsF base den r k * base % den
def dgF (base den r : Int) : Nat → List Int
  | 0 => []
  | k + 1 => dgF base den r k ++ [rsF base den r k * base / den]
theorem dgF_len (base den r : Int) : ∀ k, (dgF base den r k).length = k
  | 0 => rfl
  | k + 1 => by simp [dgF, dgF_len base den r k]
theorem rsF_bd {base den r : Int} (hd : 1 ≤ den) (h0 : 0 ≤ r) (h1 : r < den) : ∀ k, 0 ≤ rsF base den r k ∧ rsF base den r k < den
  | 0 => ⟨h0, h1⟩
  | k + 1 => ⟨Int.emod_nonneg _ (by omega), Int.emod_lt_of_pos _ (by omega)⟩
theorem dgF_take (base den r : Int) : ∀ (n k : Nat), k ≤ n → (dgF base den r n).take k = dgF base den r k
  | 0, k, h => by
    have : k = 0 := by omega
    subst this
    rfl
  | n + 1, k, h => by
    rcases Nat.lt_or_ge n k with h1 | h1
    · have : k = n + 1 := by omega
      subst this
      exact List.take_of_length_le (by rw [dgF_len]; exact Nat.le_refl _)
    · rw [dgF, List.take_append_of_le_length (by rw [dgF_len]; exact h1)]
      exact dgF_take base den r n k h1
end Go.Proofs.YtjgafjbccfjojaaGreat
namespace Go.Proofs.YtjgafjbccfjojaaGreat
open Go.RowKit Go.Sort
/-- How many first elements two lists have in common. -/
def cmT : List Int → List Int → Nat
  | x :: xs, y :: ys => if x = y then cmT xs ys + 1 else 0
  | _, _ => 0
theorem cmT_nil (xs : List Int) : cmT xs [] = 0 := by cases xs <;> rfl
theorem cmT_nilL (xs : List Int) : cmT [] xs = 0 := by cases xs <;> rfl
theorem cmT_le : ∀ xs ys : List Int, cmT xs ys ≤ xs.length ∧ cmT xs ys ≤ ys.length
  | [], ys => by rw [cmT_nilL]; omega
  | x :: xs, [] => by rw [cmT_nil]; omega
  | x :: xs, y :: ys => by
    have := cmT_le xs ys
    unfold cmT
    split <;> simp <;> omega
theorem cmT_take : ∀ xs ys : List Int, xs.take (cmT xs ys) = ys.take (cmT xs ys)
  | [], ys => by rw [cmT_nilL]; simp
  | x :: xs, [] => by rw [cmT_nil]; simp
  | x :: xs, y :: ys => by
    unfold cmT
    split
    · rename_i h
      rw [List.take_succ_cons, List.take_succ_cons, cmT_take xs ys, h]
    · simp
theorem cmT_yes {xs ys : List Int} {k : Nat} {x : Int} (hx : xs[k]? = some x) (hy : ys[k]? = some x) : cmT (xs.drop k) (ys.drop k) = cmT (xs.drop (k + 1)) (ys.drop (k + 1)) + 1 := by
  obtain ⟨h1, h2⟩ := List.getElem?_eq_some_iff.1 hx
  obtain ⟨h3, h4⟩ := List.getElem?_eq_some_iff.1 hy
  rw [List.drop_eq_getElem_cons h1, List.drop_eq_getElem_cons h3, h2, h4, cmT, if_pos rfl]
theorem cmT_no {xs ys : List Int} {k : Nat} {x y : Int} (hx : xs[k]? = some x) (hy : ys[k]? = some y) (h : ¬ x = y) : cmT (xs.drop k) (ys.drop k) = 0 := by
  obtain ⟨h1, h2⟩ := List.getElem?_eq_some_iff.1 hx
  obtain ⟨h3, h4⟩ := List.getElem?_eq_some_iff.1 hy
  rw [List.drop_eq_getElem_cons h1, List.drop_eq_getElem_cons h3, h2, h4, cmT, if_neg h]
theorem cmT_endL {xs ys : List Int} {k : Nat} (h : ¬ k < xs.length) : cmT (xs.drop k) (ys.drop k) = 0 := by
  rw [List.drop_eq_nil_of_le (by omega), cmT_nilL]
theorem cmT_endR {xs ys : List Int} {k : Nat} (h : ¬ k < ys.length) : cmT (xs.drop k) (ys.drop k) = 0 := by
  have e : ys.drop k = [] := List.drop_eq_nil_of_le (by omega)
  rw [e, cmT_nil]
theorem cvG_len : ∀ (ts : List Int) (p q a b : Int) (R : List (Int × Int)), cvG ts p q a b = some R → R.length = ts.length ∧ ∀ x ∈ R, fracOk x.1 x.2 = true
  | [], p, q, a, b, R, h => by
    simp only [cvG, Option.some.injEq] at h
    subst h
    simp
  | t :: ts, p, q, a, b, R, h => by
    unfold cvG at h
    split at h
    · rename_i hk
      cases e : cvG ts (t * p + a) (t * q + b) p q with
      | none => rw [e] at h; cases h
      | some S =>
        rw [e] at h
        simp only [Option.map_some, Option.some.injEq] at h
        subst h
        obtain ⟨h1, h2⟩ := cvG_len ts _ _ _ _ S e
        refine ⟨by simp [h1], fun x hx => ?_⟩
        rcases List.mem_cons.1 hx with rfl | hx
        · exact hk
        · exact h2 x hx
    · cases h
theorem convs_len {ts : List Int} {R : List (Int × Int)} (h : convs ts = some R) : R.length = ts.length ∧ ∀ x ∈ R, fracOk x.1 x.2 = true := cvG_len ts _ _ _ _ R h
/-- The last convergent. -/
def lastF (R : List (Int × Int)) : Int × Int := R.getD (R.length - 1) (0, 0)
theorem lastF_ok {ts : List Int} {R : List (Int × Int)} (h : convs ts = some R) (h1 : 1 ≤ ts.length) : fracOk (lastF R).1 (lastF R).2 = true := by
  obtain ⟨h2, h3⟩ := convs_len h
  have : R[R.length - 1]? = some (lastF R) := by
    unfold lastF
    rw [List.getD_eq_getElem?_getD, List.getElem?_eq_getElem (by omega)]; rfl
  exact h3 _ (List.mem_of_getElem? this)
/-- The terms whose last one is greater by 1. -/
def incL (ts : List Int) : List Int := ts.set (ts.length - 1) (ts.getD (ts.length - 1) 0 + 1)
/-- The lesser one first. -/
def ordF (a b : Int × Int) : (Int × Int) × (Int × Int) := if b.1 * a.2 < a.1 * b.2 then (b, a) else (a, b)
/-- The bounds of numbers whose terms begin with a list. -/
def bdS (ts : List Int) : Option ((Int × Int) × (Int × Int)) :=
  if ts.getD (ts.length - 1) 0 = 1000000000 then none
  else match convs ts, convs (incL ts) with
    | some one, some two => some (ordF (lastF one) (lastF two))
    | _, _ => none
theorem bdS_ok {ts : List Int} {a b : Int × Int} (h : bdS ts = some (a, b)) (h1 : 1 ≤ ts.length) : fracOk a.1 a.2 = true ∧ fracOk b.1 b.2 = true ∧ ∃ one, convs ts = some one ∧ (lastF one = a ∨ lastF one = b) := by
  unfold bdS at h
  split at h
  · cases h
  · split at h
    · rename_i one two e1 e2
      have k1 := lastF_ok e1 h1
      have k2 := lastF_ok e2 (by simp [incL]; omega)
      unfold ordF at h
      split at h
      · simp only [Option.some.injEq, Prod.mk.injEq] at h
        obtain ⟨rfl, rfl⟩ := h
        exact ⟨k2, k1, one, e1, .inr rfl⟩
      · simp only [Option.some.injEq, Prod.mk.injEq] at h
        obtain ⟨rfl, rfl⟩ := h
        exact ⟨k1, k2, one, e1, .inl rfl⟩
    · cases h
theorem tmB_all : ∀ (xs : List Int) (i : Nat), termsAll i xs = true ↔ ∀ j x, xs[j]? = some x → tmB (i + j) x = true
  | [], i => by simp [termsAll]
  | y :: ys, i => by
    unfold termsAll
    rw [Bool.and_eq_true, tmB_all ys (i + 1)]
    constructor
    · rintro ⟨h1, h2⟩ j x hx
      cases j with
      | zero => simp at hx; subst hx; exact h1
      | succ j =>
        have := h2 j x (by simpa using hx)
        rwa [show i + 1 + j = i + (j + 1) by omega] at this
    · intro h
      refine ⟨h 0 y (by simp), fun j x hx => ?_⟩
      have := h (j + 1) x (by simpa using hx)
      rwa [show i + (j + 1) = i + 1 + j by omega] at this
theorem termsB_at {ts : List Int} (h : termsB ts = true) : (1 ≤ ts.length ∧ ts.length ≤ 60) ∧ ∀ x ∈ ts, bil x := by
  unfold termsB at h
  rw [Bool.and_eq_true] at h
  have hl := inR_true.1 h.2
  refine ⟨by omega, fun x hx => ?_⟩
  obtain ⟨j, hj⟩ := List.getElem?_of_mem hx
  have := (tmB_all ts 0).1 h.1 j x hj
  unfold tmB at this
  have := inR_true.1 this
  unfold bil
  split at this <;> omega
/-- One more at the end: still valid terms unless the last one was the greatest. -/
theorem incL_ok {ts : List Int} (h : termsB ts = true) : termsB (incL ts) = decide (¬ ts.getD (ts.length - 1) 0 = 1000000000) := by
  obtain ⟨⟨h1, h2⟩, h3⟩ := termsB_at h
  unfold termsB at h
  rw [Bool.and_eq_true] at h
  have hA := (tmB_all ts 0).1 h.1
  have hl : ts[ts.length - 1]? = some (ts.getD (ts.length - 1) 0) := by
    rw [List.getD_eq_getElem?_getD, List.getElem?_eq_getElem (by omega)]; rfl
  have hb := hA _ _ hl
  rw [Bool.eq_iff_iff, decide_eq_true_iff]
  unfold termsB
  rw [Bool.and_eq_true, tmB_all, inR_true]
  have hlen : (incL ts).length = ts.length := by simp [incL]
  rw [hlen]
  generalize hz : ts.getD (ts.length - 1) 0 = z at *
  have hset : (incL ts)[ts.length - 1]? = some (z + 1) := by
    unfold incL
    rw [hz]
    exact List.getElem?_set_self (by omega)
  unfold tmB at hb
  have hb := inR_true.1 hb
  constructor
  · rintro ⟨h4, _⟩ e
    have := h4 _ _ hset
    unfold tmB at this
    have := inR_true.1 this
    omega
  · intro e
    refine ⟨fun j x hx => ?_, by omega⟩
    by_cases hj : j = ts.length - 1
    · subst hj
      rw [hset] at hx
      obtain rfl := Option.some.inj hx
      unfold tmB
      refine inR_true.2 ⟨?_, by omega⟩
      have := hb.1
      split at this <;> rename_i hc <;> simp only [hc, if_true, if_false] <;> omega
    · refine hA j x ?_
      unfold incL at hx
      rwa [List.getElem?_set_ne (fun e => hj e.symm)] at hx
theorem mul18 {a b c d : Int} (h1 : fracOk a b = true) (h2 : fracOk c d = true) : -1000000000000000000 ≤ a * d ∧ a * d ≤ 1000000000000000000 := by
  obtain ⟨a1, a2, a3, a4, _⟩ := fracOk_true.1 h1
  obtain ⟨b1, b2, b3, b4, _⟩ := fracOk_true.1 h2
  have := mul_bd (x := a) (y := d) (M := 1000000000) (N := 1000000000) (by omega) a4 (by omega) b2 a3 (by omega)
  omega
/-- How many digits are sure, and a code. -/
def sureR (ts : List Int) (base : Int) : Int × Int :=
  if termsB ts = true then
    if inR base 2 36 = true then
      match bdS ts with
      | none => (0, 5)
      | some (a, b) => if a.1 / a.2 = b.1 / b.2 then ((cmT (dgF base a.2 (a.1 % a.2) 60) (dgF base b.2 (b.1 % b.2) 60) : Int), 0) else (-1, 0)
    else (0, 2)
  else (0, 1)
end Go.Proofs.YtjgafjbccfjojaaGreat
namespace Go.Proofs.YtjgafjbccfjojaaGreat
open Go.RowKit Go.Sort
/-- Block g is two cells. -/
def B2 (g : Nat) (x y : Int) (W : World) : Prop := W.cell? ⟨g, 0, none⟩ = some (.int .i64 x) ∧ W.cell? ⟨g, 1, none⟩ = some (.int .i64 y) ∧ (∀ j, W.frozen? ⟨g, j, none⟩ = false) ∧ g < W.heap.size
theorem B2.next {g : Nat} {x y : Int} {W W' : World} (h : B2 g x y W) (hb : Below W.heap.size W W') : B2 g x y W' :=
  ⟨(hb.cell (p := ⟨g, 0, none⟩) h.2.2.2).trans h.1, (hb.cell (p := ⟨g, 1, none⟩) h.2.2.2).trans h.2.1, fun j => (hb.frozen (p := ⟨g, j, none⟩) h.2.2.2).trans (h.2.2.1 j), Nat.lt_of_lt_of_le h.2.2.2 hb.size⟩
theorem B2.new (W : World) (x y : Int) (T : TypeId) : B2 W.heap.size x y (W.alloc (.cells #[.int .i64 x, .int .i64 y] T)) :=
  ⟨by rw [cell_one]; rfl, by rw [cell_one]; rfl, fun j => World.frozen?_alloc_at _ _ _ _ rfl, by simp⟩
theorem B2.new_at {g : Nat} {W : World} (x y : Int) (T : TypeId) (h : g = W.heap.size) : B2 g x y (W.alloc (.cells #[.int .i64 x, .int .i64 y] T)) := h ▸ B2.new W x y T
theorem B2.far {g i j : Nat} {x y : Int} {W : World} (h : B2 g x y W) (hi : g ≠ i) (u : Value) : B2 g x y (W.setCell ⟨i, j, none⟩ u) := by
  have o : ∀ m, (W.setCell ⟨i, j, none⟩ u).cell? ⟨g, m, none⟩ = W.cell? ⟨g, m, none⟩ := fun m => World.cell?_setCell_other _ _ _ _ (by intro e; injection e; omega)
  exact ⟨(o 0).trans h.1, (o 1).trans h.2.1, fun m => (World.frozen?_setCell _ _ _ _).trans (h.2.2.1 m), by simpa using h.2.2.2⟩
theorem B2.set {g : Nat} {x y : Int} {W : World} (h : B2 g x y W) (a b : Int) : B2 g a b ((W.setCell ⟨g, 0, none⟩ (.int .i64 a)).setCell ⟨g, 1, none⟩ (.int .i64 b)) := by
  obtain ⟨h0, h1, hf, hl⟩ := h
  obtain ⟨s0, s1⟩ := set_two h0 h1
  exact ⟨(World.cell?_setCell_other _ ⟨g, 1, none⟩ ⟨g, 0, none⟩ _ (by simp)).trans (s0 _), s1 _ _, fun m => (World.frozen?_setCell _ _ _ _).trans ((World.frozen?_setCell _ _ _ _).trans (hf m)), by simpa using hl⟩
end Go.Proofs.YtjgafjbccfjojaaGreat
namespace Go.Proofs.YtjgafjbccfjojaaGreat
open Go.RowKit Go.Sort
theorem l02Sign_any (a b c d : Int) (w : World) (h1 : -1000000000000000000 ≤ a * d) (h2 : a * d ≤ 1000000000000000000) (h3 : -1000000000000000000 ≤ c * b) (h4 : c * b ≤ 1000000000000000000) :
    Calls Tryz.prog 89 #[fracV a b, fracV c d] w fun e w' => e = .returned (.int .i64 (cmp3 (a * d) (c * b))) ∧ Below w.heap.size w w' := by
  unfold fracV
  by_cases x1 : a * d < c * b
  · have e1 : cmp3 (a * d) (c * b) = -1 := by rw [cmp3, if_pos x1]
    rw [e1]
    clear e1
    go_enter Tryz.func89, Tryz.ntmps89
    go_wp2
    go_ret
    exact ⟨rfl, ext_alloc (ext_alloc (Below.refl _ _) _) _⟩
  · by_cases x2 : c * b < a * d
    · have e1 : cmp3 (a * d) (c * b) = 1 := by rw [cmp3, if_neg x1, if_pos x2]
      rw [e1]
      clear e1
      go_enter Tryz.func89, Tryz.ntmps89
      go_wp2
      go_ret
      exact ⟨rfl, ext_alloc (ext_alloc (Below.refl _ _) _) _⟩
    · have e1 : cmp3 (a * d) (c * b) = 0 := by rw [cmp3, if_neg x1, if_neg x2]
      rw [e1]
      clear e1
      go_enter Tryz.func89, Tryz.ntmps89
      go_wp2
      go_ret
      exact ⟨rfl, ext_alloc (ext_alloc (Below.refl _ _) _) _⟩
theorem l02Less_any (a b c d : Int) (w : World) (h1 : -1000000000000000000 ≤ a * d) (h2 : a * d ≤ 1000000000000000000) (h3 : -1000000000000000000 ≤ c * b) (h4 : c * b ≤ 1000000000000000000) :
    Calls Tryz.prog 78 #[fracV a b, fracV c d] w fun e w' => e = .returned (.bool (decide (a * d < c * b))) ∧ Below w.heap.size w w' := by
  have HS := Lib.hid (l02Sign_any a b c d · h1 h2 h3 h4)
  have he : decide (cmp3 (a * d) (c * b) < 0) = decide (a * d < c * b) := by rw [Bool.eq_iff_iff]; simp [cmp3_neg]
  rw [← he]
  clear he
  generalize cmp3 (a * d) (c * b) = v at *
  unfold fracV at *
  go_enter Tryz.func78, Tryz.ntmps78
  go_wp2_with fail
  refine (HS.out _).mono ?_
  rintro e w1 ⟨rfl, hb1⟩
  obtain ⟨hc1, hf1⟩ := bcell hb1
  have hy1 := hb1.size
  (try simp at hy1)
  have hz1_0 : w.heap.size < w1.heap.size := by omega
  go_wp2
  go_ret
  refine ⟨rfl, ?_⟩
  repeat (first | exact Below.refl _ _ | assumption | refine ext_alloc ?_ _ | refine ext_drew ?_ | refine ext_trans ?_ (by assumption))
end Go.Proofs.YtjgafjbccfjojaaGreat
namespace Go.Proofs.YtjgafjbccfjojaaGreat
open Go.RowKit Go.Sort
/-- What returns a slice of integers of its own. -/
def RetFd (w : World) (xs : List Int) (e : Ending) (w' : World) : Prop := ∃ A c, e = .returned (.slice A xs.length c) ∧ w'.ownsRow w.heap.size 2 1 (.slice A xs.length c) xs.length (xs.map (Value.int .i64)) ∧ Below w.heap.size w w'
set_option maxRecDepth 100000 in
theorem l16Digits_any (r den base : Int) (n : Nat) (w : World) (d1 : 1 ≤ den) (d2 : den ≤ 1000000000) (r0 : 0 ≤ r) (r1 : r < den) (b1 : 2 ≤ base) (b2 : base ≤ 36) (hn : n ≤ 1000) :
    Calls Tryz.prog 42 #[.int .i64 r, .int .i64 den, .int .i64 base, .int .i64 n] w (RetFd w (dgF base den r n)) := by
  obtain ⟨i0, hi, hz0, hz1, hz2⟩ := info_parts info64
  have HI := Lib.hid hi
  have O0 : Hid ((w.alloc (.cells #[] 2)).ownsRow w.heap.size 2 1 (.slice (some ⟨w.heap.size, 0, none⟩) 0 0) 0 []) := by
    have h := World.ownsRow_lit (base := w.heap.size) (e := 2) (size := 1) w #[] 0 (by simp) (by simp) rfl
    unfold Hid
    simpa using h
  have E0 := Lib.hid (ext1 w (.cells #[] 2))
  have HBD := Lib.hid (rsF_bd (base := base) d1 r0 r1)
  clear hi
  go_enter Tryz.func42, Tryz.ntmps42
  go_wp2_with fail
  go_loopw [0, 9, 10] (fun q v t wr => ∃ k : Nat, k ≤ n ∧ q = .int .i64 (rsF base den r k) ∧ t = .int .i64 k ∧ Hid (wr.ownsRow w.heap.size 2 1 v k ((dgF base den r k).map (Value.int .i64))) ∧ Hid (Below w.heap.size w wr)) (fun _ _ t _ => n - (intOf t).toNat)
  case atStart => exact ⟨0, by omega, rfl, rfl, O0.out, E0.out⟩
  case round =>
    obtain ⟨k, hk, rfl, rfl, HO, HB⟩ := hrel
    obtain ⟨A, c, rfl⟩ := own_slice HO.out
    by_cases hlt : k < n
    · obtain ⟨m1, m2⟩ := HBD.out k
      have hs : rsF base den r (k + 1) = rsF base den r k * base % den := rfl
      have hd : dgF base den r (k + 1) = dgF base den r k ++ [rsF base den r k * base / den] := rfl
      have HS := Lib.hid hs
      have HD := Lib.hid hd
      have hl := dgF_len base den r k
      have HL := Lib.hid hl
      clear hs hd hl
      generalize hq : rsF base den r k = q at *
      clear hq
      have p1 : 0 ≤ q * base := Int.mul_nonneg m1 (by omega)
      have p2 : q * base ≤ 1000000000 * 36 := Int.mul_le_mul (by omega) b2 (by omega) (by omega)
      have hw0 : IntKind.i64.wrap (q * base) = q * base := IntWalk.i64_in _ (by omega)
      obtain ⟨p, hp⟩ : ∃ p, q * base = p := ⟨_, rfl⟩
      have HS' := HS.out
      have HD' := HD.out
      rw [hp] at p1 p2 hw0 HS' HD'
      have hw0 : IntKind.i64.wrap (q * base) = p := by rw [hp]; exact hw0
      clear HS HD
      have HS := Lib.hid HS'
      have HD := Lib.hid HD'
      clear hp HS' HD'
      have q1 : 0 ≤ p / den := Int.ediv_nonneg p1 (by omega)
      have q2 : p / den ≤ p := Int.ediv_le_self _ p1
      have q3 := Int.emod_nonneg p (show den ≠ 0 by omega)
      have q4 := Int.emod_lt_of_pos p (show 0 < den by omega)
      have hw1 : IntKind.i64.wrap (p / den) = p / den := IntWalk.i64_in _ (by omega)
      have hw2 : IntKind.i64.wrap (p % den) = p % den := IntWalk.i64_in _ (by omega)
      have t1 : p.tdiv den = p / den := Int.tdiv_eq_ediv_of_nonneg p1
      have t2 : p.tmod den = p % den := Int.tmod_eq_emod_of_nonneg p1
      have hd0 : ¬ den = 0 := by omega
      have hwk : IntKind.i64.wrap ((k : Int) + 1) = (k : Int) + 1 := IntWalk.i64_in _ (by omega)
      have hlt' : (k : Int) < (n : Int) := by omega
      have hown := HO.out.alloc (.cells #[.int .i64 (p / den)] 2)
      have hbz := HB.out.size
      go_wp2_with (at_builtin; go_must (refine wpList_append_own _ rfl _ _ 24 rfl w.heap.size 2 i0 (.int .i64 0) 1 8 Tryz.underlying24 HI.out hz0 hz1 hz2 rfl (by decide) _ _ _ rfl hown ⟨wr.heap.size, 0, none⟩ 1 1 [.int .i64 (p / den)] rfl rfl (news_row wr _ _ rfl) ?c2 ?c3 ?c4 ?c5 ?_))
      case c2 => simp [Value.oneCell']
      case c3 => unfold maxLen; omega
      case c4 => omega
      case c5 => simp; omega
      intro v' w3 hown3 hgrow _
      have HO3 : Hid (w3.ownsRow w.heap.size 2 1 v' (k + 1) ((dgF base den r (k + 1)).map (Value.int .i64))) := by
        unfold Hid
        rw [HD.out, List.map_append]
        exact hown3
      have HB3 := Lib.hid (below_grown (ext_alloc HB.out (.cells #[.int .i64 (p / den)] 2)) hown (Nat.le_refl _) hgrow)
      clear hown3 hgrow hown HD HO HB
      go_wp2
      go_roundw
      case rel => exact ⟨k + 1, by omega, by rw [HS.out], by congr 1, HO3, HB3⟩
      case measure => simp [intOf]; omega
    · have hkn : k = n := by omega
      have HR : Hid (RetFd w (dgF base den r n) (.returned (.slice A k c)) wr) := by
        subst hkn
        have h := HO.out
        exact ⟨A, c, by rw [dgF_len], by rw [dgF_len]; exact h, HB.out⟩
      go_wp2
      go_ret
      exact HR.out
end Go.Proofs.YtjgafjbccfjojaaGreat
namespace Go.Proofs.YtjgafjbccfjojaaGreat
open Go.RowKit Go.Sort
/-- What returns a number and a slice of integers. -/
def RetFq (w : World) (q : Int) (xs : List Int) (e : Ending) (w' : World) : Prop := ∃ A c, e = .returned (.tuple #[.int .i64 q, .slice A xs.length c]) ∧ Wr (Value.int .i64) w' w.heap.size A xs ∧ Below w.heap.size w w'
/-- .. and a code. -/
def RetDf (w : World) (q : Int) (xs : List Int) (code : Int) (e : Ending) (w' : World) : Prop := ∃ A c, e = .returned (.tuple #[.int .i64 q, .slice A xs.length c, .int .i64 code]) ∧ Wr (Value.int .i64) w' w.heap.size A xs ∧ Below w.heap.size w w'
/-- The code of a fraction, a base and a number of digits. -/
def dfC (n d base count : Int) : Int := if fracOk n d = true then (if inR base 2 36 && inR count 0 1000 then 0 else 2) else 1
theorem dfC_zero {n d base count : Int} (h : dfC n d base count = 0) : fracOk n d = true ∧ (2 ≤ base ∧ base ≤ 36) ∧ 0 ≤ count ∧ count ≤ 1000 := by
  unfold dfC at h
  split at h
  · rename_i h1
    split at h
    · rename_i h2
      rw [Bool.and_eq_true] at h2
      exact ⟨h1, inR_true.1 h2.1, inR_true.1 h2.2⟩
    · omega
  · omega
theorem floor_parts {num den : Int} (d1 : 1 ≤ den) : ∃ q r : Int, num / den = q ∧ num % den = r ∧ num - q * den = r ∧ 0 ≤ r ∧ r < den := by
  have h := Int.mul_ediv_add_emod num den
  have hc : den * (num / den) = num / den * den := Int.mul_comm _ _
  exact ⟨_, _, rfl, rfl, by omega, Int.emod_nonneg num (by omega), Int.emod_lt_of_pos num (by omega)⟩
set_option maxRecDepth 100000 in
set_option maxHeartbeats 1000000 in
theorem fractionDigits_any (num den base : Int) (n : Nat) (w : World) (n1 : -1000000000 ≤ num) (n2 : num ≤ 1000000000) (d1 : 1 ≤ den) (d2 : den ≤ 1000000000) (b1 : 2 ≤ base) (b2 : base ≤ 36) (hn : n ≤ 1000) :
    Calls Tryz.prog 37 #[fracV num den, .int .i64 base, .int .i64 n] w (RetFq w (num / den) (dgF base den (num % den) n)) := by
  obtain ⟨i0, hi, hz0, hz1, hz2⟩ := info_parts info64
  have HI := Lib.hid hi
  have HQ0 := fun W : World => floorDiv_any num den W (by omega) (by omega) d1 (by omega)
  obtain ⟨q, r, hq, hr, hqr, r0, r1⟩ := floor_parts (num := num) d1
  rw [hr, hq]
  rw [hq] at HQ0
  have HQ := Lib.hid HQ0
  have p1 : -3000000000 ≤ q * den ∧ q * den ≤ 3000000000 := by omega
  obtain ⟨p1, p2⟩ := p1
  have HBD := Lib.hid (rsF_bd (base := base) d1 r0 r1)
  have B0 := Lib.hid (BoxV.new w #[.int .i64 num, .int .i64 den] 34)
  have E0 := Lib.hid (ext1 w (.cells #[.int .i64 num, .int .i64 den] 34))
  have HQR := Lib.hid hqr
  clear hi HQ0 hq hr hqr
  unfold fracV
  go_enter Tryz.func37, Tryz.ntmps37
  go_wp2_with fail
  refine (HQ.out _).mono ?_
  rintro e w' ⟨rfl, rfl⟩
  go_wp2_with fail
  generalize w.alloc (.cells #[.int .i64 num, .int .i64 den] 34) = W0 at *
  go_loopw [24, 9, 10] (fun t z v wr => ∃ k : Nat, k ≤ n ∧ t = .int .i64 k ∧ z = .int .i64 (rsF base den r k) ∧ Hid (wr.ownsRow (w.heap.size + 1) 2 1 v k ((dgF base den r k).map (Value.int .i64))) ∧ Hid (Below w.heap.size w wr) ∧ Hid (BoxV w.heap.size [.int .i64 num, .int .i64 den] wr)) (fun t _ _ _ => n - (intOf t).toNat)
  case atStart => exact ⟨0, by omega, rfl, val_int (by have := HQR.out; show _ = r; omega), own_nil, E0.out, B0.out⟩
  case round =>
    obtain ⟨k, hk, rfl, rfl, HO, HB, BX⟩ := hrel
    obtain ⟨A, c, rfl⟩ := own_slice HO.out
    by_cases hlt : k < n
    · obtain ⟨m1, m2⟩ := HBD.out k
      have hs : rsF base den r (k + 1) = rsF base den r k * base % den := rfl
      have hd : dgF base den r (k + 1) = dgF base den r k ++ [rsF base den r k * base / den] := rfl
      have HS := Lib.hid hs
      have HD := Lib.hid hd
      have hl := dgF_len base den r k
      have HL := Lib.hid hl
      clear hs hd hl
      generalize hq : rsF base den r k = z at *
      clear hq
      have p1 : 0 ≤ z * base := Int.mul_nonneg m1 (by omega)
      have p2 : z * base ≤ 1000000000 * 36 := Int.mul_le_mul (by omega) b2 (by omega) (by omega)
      have hw0 : IntKind.i64.wrap (z * base) = z * base := IntWalk.i64_in _ (by omega)
      obtain ⟨p, hp⟩ : ∃ p, z * base = p := ⟨_, rfl⟩
      have HS' := HS.out
      have HD' := HD.out
      rw [hp] at p1 p2 hw0 HS' HD'
      have hw0 : IntKind.i64.wrap (z * base) = p := by rw [hp]; exact hw0
      clear HS HD
      have HS := Lib.hid HS'
      have HD := Lib.hid HD'
      clear hp HS' HD'
      have q1 : 0 ≤ p / den := Int.ediv_nonneg p1 (by omega)
      have q2 : p / den ≤ p := Int.ediv_le_self _ p1
      have q3 := Int.emod_nonneg p (show den ≠ 0 by omega)
      have q4 := Int.emod_lt_of_pos p (show 0 < den by omega)
      have hw1 : IntKind.i64.wrap (p / den) = p / den := IntWalk.i64_in _ (by omega)
      have hw2 : IntKind.i64.wrap (p % den) = p % den := IntWalk.i64_in _ (by omega)
      have t1 : p.tdiv den = p / den := Int.tdiv_eq_ediv_of_nonneg p1
      have t2 : p.tmod den = p % den := Int.tmod_eq_emod_of_nonneg p1
      have hd0 : ¬ den = 0 := by omega
      have hwk : IntKind.i64.wrap ((k : Int) + 1) = (k : Int) + 1 := IntWalk.i64_in _ (by omega)
      have hlt' : (k : Int) < (n : Int) := by omega
      have hown := HO.out.alloc (.cells #[.int .i64 (p / den)] 2)
      have hbz := HB.out.size
      have hbx := BX.out.lt
      have m0 := BX.out.at 1 _ rfl
      have BX2 := Lib.hid (BX.out.alloc (.cells #[.int .i64 (p / den)] 2))
      go_wp2_with (at_builtin; go_must (refine wpList_append_own _ rfl _ _ 24 rfl (w.heap.size + 1) 2 i0 (.int .i64 0) 1 8 Tryz.underlying24 HI.out hz0 hz1 hz2 rfl (by decide) _ _ _ rfl hown ⟨wr.heap.size, 0, none⟩ 1 1 [.int .i64 (p / den)] rfl rfl (news_row wr _ _ rfl) ?c2 ?c3 ?c4 ?c5 ?_))
      case c2 => simp [Value.oneCell']
      case c3 => unfold maxLen; omega
      case c4 => omega
      case c5 => simp; omega
      intro v' w3 hown3 hgrow _
      have HO3 : Hid (w3.ownsRow (w.heap.size + 1) 2 1 v' (k + 1) ((dgF base den r (k + 1)).map (Value.int .i64))) := by
        unfold Hid
        rw [HD.out, List.map_append]
        exact hown3
      have HB3 := Lib.hid (below_grown (ext_alloc HB.out (.cells #[.int .i64 (p / den)] 2)) hown (by omega) hgrow)
      have BX3 := Lib.hid (BX2.out.grown hgrow (fun e => by have := (hown.lt _ e).1; omega))
      have m1 := BX3.out.at 1 _ rfl
      clear hown3 hgrow hown HO HB BX BX2 m0
      go_wp2
      go_roundw
      case rel => exact ⟨k + 1, by omega, val_int (by omega), by rw [HS.out], HO3, HB3, BX3⟩
      case measure => simp [intOf]; omega
    · have hkn : k = n := by omega
      have HR : Hid (RetFq w q (dgF base den r n) (.returned (.tuple #[.int .i64 q, .slice A k c])) wr) := by
        subst hkn
        obtain ⟨h1, A', c', e', h2⟩ := Wr.of_own HO.out
        injection e' with e1 e2 e3
        subst e1 e3
        exact ⟨A, c, by rw [dgF_len], h2.more (by omega), HB.out⟩
      clear hkn
      have hlt' : ¬ (k : Int) < (n : Int) := by omega
      go_wp2
      go_ret2
      exact HR.out
set_option maxHeartbeats 1000000 in
theorem iDigitsOfFraction_any (num den base count : Int) (w : World) :
    Calls Tryz.prog 12 #[fracV num den, .int .i64 base, .int .i64 count] w (RetDf w (if dfC num den base count = 0 then num / den else 0) (if dfC num den base count = 0 then dgF base den (num % den) count.toNat else []) (dfC num den base count)) := by
  have HV := Lib.hid (fun W : World => ValidFraction_any num den W)
  have HB := Lib.hid (isBase_any base)
  have HC := Lib.hid (within_any count 0 1000)
  have HE : Hid (dfC num den base count = if fracOk num den = true then (if inR base 2 36 && inR count 0 1000 then 0 else 2) else 1) := rfl
  by_cases h0 : dfC num den base count = 0
  · obtain ⟨h1, ⟨h2, h3⟩, h4, h5⟩ := dfC_zero h0
    obtain ⟨f1, f2, f3, f4, _⟩ := fracOk_true.1 h1
    rw [h0, if_pos rfl, if_pos rfl]
    have HF : Hid (∀ W, Calls Tryz.prog 37 #[fracV num den, .int .i64 base, .int .i64 count] W (RetFq W (num / den) (dgF base den (num % den) count.toNat))) := fun W => by
      have := fractionDigits_any num den base count.toNat W f3 f4 f1 f2 h2 h3 (by omega)
      rwa [show ((count.toNat : Nat) : Int) = count by omega] at this
    have y1 : inR base 2 36 = true := inR_true.2 ⟨h2, h3⟩
    have y2 : inR count 0 1000 = true := inR_true.2 ⟨h4, h5⟩
    rw [h1] at HV
    rw [y1] at HB
    rw [y2] at HC
    clear HE h0 h1 y1 y2
    generalize num / den = q at *
    generalize dgF base den (num % den) count.toNat = xs at *
    unfold fracV at *
    go_enter Tryz.func12, Tryz.ntmps12
    go_wp2_with (first | (go_at_call 36; (with_reducible refine (HV.out _).mono ?_); rintro e w1 ⟨rfl, hb1⟩; obtain ⟨hc1, hf1⟩ := bcell hb1; have hy1 := hb1.size; (try simp at hy1); have hz1 : w.heap.size < w1.heap.size := by omega) | (go_at_call 23; (with_reducible refine (HB.out _).mono ?_); rintro e w' ⟨rfl, rfl⟩) | (go_at_call 24; (with_reducible refine (HC.out _).mono ?_); rintro e w' ⟨rfl, rfl⟩) | (go_at_call 37; (with_reducible refine (HF.out _).mono ?_); rintro e w2 ⟨A, c, rfl, hw2, hb2⟩; have HW2 := Lib.hid hw2; clear hw2))
    refine bodyPost_ret (v := .tuple #[.int .i64 q, .slice A xs.length c, .int .i64 0]) ?_ rfl ⟨A, c, rfl, HW2.out.more (by omega), ext_trans (ext_trans (ext1 _ _) hb1) hb2⟩
    simp [results, Tryz.results12, go_sem]
  · rw [if_neg h0, if_neg h0]
    rw [HE.out] at h0 ⊢
    clear HE
    generalize fracOk num den = v at *
    generalize inR base 2 36 = x1 at *
    generalize inR count 0 1000 = x2 at *
    unfold fracV at *
    cases v <;> cases x1 <;> cases x2
    all_goals first
      | exact absurd rfl h0
      | (clear h0
         go_enter Tryz.func12, Tryz.ntmps12
         go_wp2_with (first | (go_at_call 36; (with_reducible refine (HV.out _).mono ?_); rintro e w1 ⟨rfl, hb1⟩) | (go_at_call 23; (with_reducible refine (HB.out _).mono ?_); rintro e w' ⟨rfl, rfl⟩) | (go_at_call 24; (with_reducible refine (HC.out _).mono ?_); rintro e w' ⟨rfl, rfl⟩))
         first
           | (refine bodyPost_ret (v := .tuple #[.int .i64 0, .slice none 0 0, .int .i64 1]) ?_ rfl ⟨none, 0, rfl, fun h => absurd h (by simp), ext_trans (ext1 _ _) hb1⟩; simp [results, Tryz.results12, go_sem]; done)
           | (refine bodyPost_ret (v := .tuple #[.int .i64 0, .slice none 0 0, .int .i64 2]) ?_ rfl ⟨none, 0, rfl, fun h => absurd h (by simp), ext_trans (ext1 _ _) hb1⟩; simp [results, Tryz.results12, go_sem]; done))
set_option maxHeartbeats 1000000 in
theorem sDigitsOfFraction_any (num den base count : Int) (w : World) :
    Calls Tryz.prog 13 #[fracV num den, .int .i64 base, .int .i64 count] w (RetDf w (if dfC num den base count = 0 then num / den else 0) (if dfC num den base count = 0 then dgF base den (num % den) count.toNat else []) (dfC num den base count)) := by
  have HV := Lib.hid (fun W : World => l02Ok_any num den W)
  have HB := Lib.hid (l16Base_any base)
  have HC := Lib.hid (l00In_any count 0 1000)
  have HE : Hid (dfC num den base count = if fracOk num den = true then (if inR base 2 36 && inR count 0 1000 then 0 else 2) else 1) := rfl
  by_cases h0 : dfC num den base count = 0
  · obtain ⟨h1, ⟨h2, h3⟩, h4, h5⟩ := dfC_zero h0
    obtain ⟨f1, f2, f3, f4, _⟩ := fracOk_true.1 h1
    have HQ0 := fun W : World => l02Floor_any num den W (by omega) (by omega) f1 (by omega)
    rw [h0, if_pos rfl, if_pos rfl]
    obtain ⟨q, r, hq, hr, hqr, r0, r1⟩ := floor_parts (num := num) f1
    rw [hr, hq]
    rw [hq] at HQ0
    have HQ := Lib.hid HQ0
    have p1 : -3000000000 ≤ q * den ∧ q * den ≤ 3000000000 := by omega
    obtain ⟨p1, p2⟩ := p1
    have HF : Hid (∀ W, Calls Tryz.prog 42 #[.int .i64 (num - q * den), .int .i64 den, .int .i64 base, .int .i64 count] W (RetFd W (dgF base den r count.toNat))) := fun W => by
      have := l16Digits_any r den base count.toNat W f1 f2 r0 r1 h2 h3 (by omega)
      rw [show ((count.toNat : Nat) : Int) = count by omega] at this
      rw [hqr]
      exact this
    rw [h1] at HV
    have y1 : inR base 2 36 = true := inR_true.2 ⟨h2, h3⟩
    have y2 : inR count 0 1000 = true := inR_true.2 ⟨h4, h5⟩
    rw [y1] at HB
    rw [y2] at HC
    clear HE h0 h1 y1 y2 HQ0 hq hr hqr
    generalize hxs : dgF base den r count.toNat = xs at *
    clear hxs
    have e0 : (true : Bool) = true := rfl
    unfold fracV at *
    go_enter Tryz.func13, Tryz.ntmps13
    go_wp2_with (first | (go_at_call 38; (with_reducible refine (HV.out _).mono ?_); rintro e w1 ⟨rfl, hb1⟩; obtain ⟨hc1, hf1⟩ := bcell hb1; have hy1 := hb1.size; (try simp at hy1); have hz1 : w.heap.size < w1.heap.size := by omega) | (go_at_call 39; (with_reducible refine (HB.out _).mono ?_); rintro e w' ⟨rfl, rfl⟩) | (go_at_call 40; (with_reducible refine (HC.out _).mono ?_); rintro e w' ⟨rfl, rfl⟩) | (go_at_call 41; (with_reducible refine (HQ.out _).mono ?_); rintro e w' ⟨rfl, rfl⟩) | (go_at_call 42; (with_reducible refine (HF.out _).mono ?_); rintro e w2 ⟨A, c, rfl, hw2, hb2⟩; have HW2 := Lib.hid hw2; clear hw2))
    obtain ⟨_, A', c', e', h7⟩ := Wr.of_own HW2.out
    injection e' with e1 e2 e3
    subst e1 e3
    exact bodyPost_ret (v := .tuple #[.int .i64 q, .slice A xs.length c, .int .i64 0]) (by simp [results, Tryz.results13, go_sem]; done) rfl ⟨A, c, rfl, h7.more (by omega), ext_trans (ext_trans (ext1 _ _) hb1) hb2⟩
  · rw [if_neg h0, if_neg h0]
    rw [HE.out] at h0 ⊢
    clear HE
    generalize fracOk num den = v at *
    generalize inR base 2 36 = x1 at *
    generalize inR count 0 1000 = x2 at *
    unfold fracV at *
    cases v <;> cases x1 <;> cases x2
    all_goals first
      | exact absurd rfl h0
      | (clear h0
         go_enter Tryz.func13, Tryz.ntmps13
         go_wp2_with (first | (go_at_call 38; (with_reducible refine (HV.out _).mono ?_); rintro e w1 ⟨rfl, hb1⟩) | (go_at_call 39; (with_reducible refine (HB.out _).mono ?_); rintro e w' ⟨rfl, rfl⟩) | (go_at_call 40; (with_reducible refine (HC.out _).mono ?_); rintro e w' ⟨rfl, rfl⟩))
         first
           | (refine bodyPost_ret (v := .tuple #[.int .i64 0, .slice none 0 0, .int .i64 1]) ?_ rfl ⟨none, 0, rfl, fun h => absurd h (by simp), ext_trans (ext1 _ _) hb1⟩; simp [results, Tryz.results13, go_sem]; done)
           | (refine bodyPost_ret (v := .tuple #[.int .i64 0, .slice none 0 0, .int .i64 2]) ?_ rfl ⟨none, 0, rfl, fun h => absurd h (by simp), ext_trans (ext1 _ _) hb1⟩; simp [results, Tryz.results13, go_sem]; done))
end Go.Proofs.YtjgafjbccfjojaaGreat
