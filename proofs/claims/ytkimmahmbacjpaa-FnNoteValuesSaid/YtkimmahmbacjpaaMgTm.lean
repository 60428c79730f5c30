/- XTmP XCmpP XShortW XTmW XTmTW XShAtW in one text. No condition but those that each theorem names. -/
import Derived.Test.YtkimmahmbacjpaaSlices
import Derived.Test.YtkimmahmbacjpaaExpW
import Derived.Test.YtkimmahmbacjpaaCloneW
import Derived.Test.YtkimmahmbacjpaaBoxW
import Derived.IntWalk
import Derived.Test.YtkimmahmbacjpaaErrW
/- Sources of terms: the plain law. No condition but those that each theorem names. -/
namespace Go.Proofs.Ytkimmahmbacjpaa
open Go.RowKit Go.Sort

/-- A source: its head, its period, how much each term of the period grows. -/
structure So where
  hd : List Int
  pd : List Int
  gr : List Int
/-- p holds of all numbers below n. -/
def allTo (p : Nat → Bool) : Nat → Bool
  | 0 => true
  | k + 1 => allTo p k && p k
theorem allTo_false {p : Nat → Bool} {k : Nat} (h : p k = false) : ∀ n, k < n → allTo p n = false
  | n + 1, hn => by
    unfold allTo
    rcases Nat.lt_or_ge k n with g | g
    · rw [allTo_false h n g, Bool.false_and]
    · obtain rfl : k = n := by omega
      rw [h, Bool.and_false]
theorem allTo_succ {p : Nat → Bool} {k : Nat} (h : allTo p k = true) (hk : p k = true) : allTo p (k + 1) = true := by rw [allTo, h, hk]; rfl
theorem allTo_at {p : Nat → Bool} {n : Nat} (h : allTo p n = true) {k : Nat} (hk : k < n) : p k = true := by
  cases e : p k
  · rw [allTo_false e n hk] at h; cases h
  · rfl
def hdB (s : So) (k : Nat) : Bool := inR (s.hd.getD k 0) (if k = 0 then -1000000000 else 1) 1000000000
def pgB (s : So) (k : Nat) : Bool := inR (s.pd.getD k 0) 1 1000000 && inR (s.gr.getD k 0) 0 1000000
def soLen (s : So) : Bool := decide (s.hd.length ≤ 30) && (decide (s.pd.length ≤ 30) && (decide (s.gr.length = s.pd.length) && decide (s.hd.length + s.pd.length ≠ 0)))
def soB (s : So) : Bool := soLen s && (allTo (hdB s) s.hd.length && allTo (pgB s) s.pd.length)
theorem soLen_true {s : So} : soLen s = true ↔ s.hd.length ≤ 30 ∧ s.pd.length ≤ 30 ∧ s.gr.length = s.pd.length ∧ s.hd.length + s.pd.length ≠ 0 := by
  unfold soLen; simp only [Bool.and_eq_true, decide_eq_true_eq]
theorem soLen_cases (s : So) : soLen s = true ∨ soLen s = false := by cases soLen s <;> simp
/-- The term at place k. -/
def tmS (s : So) (k : Nat) : Option Int :=
  if k < s.hd.length then some (s.hd.getD k 0)
  else if s.pd.length = 0 then none
  else some (s.pd.getD ((k - s.hd.length) % s.pd.length) 0 + (((k - s.hd.length) / s.pd.length : Nat) : Int) * s.gr.getD ((k - s.hd.length) % s.pd.length) 0)
theorem tmS_zero {s : So} (h : soB s = true) : tmS s 0 ≠ none := by
  unfold soB at h
  rw [Bool.and_eq_true] at h
  obtain ⟨_, _, _, h4⟩ := soLen_true.1 h.1
  unfold tmS
  split
  · simp
  · rw [if_neg (by omega)]; simp
theorem so_at {s : So} (h : soB s = true) : (s.hd.length ≤ 30 ∧ s.pd.length ≤ 30 ∧ s.gr.length = s.pd.length ∧ s.hd.length + s.pd.length ≠ 0) ∧
    (∀ k, k < s.hd.length → (if k = 0 then -1000000000 else 1) ≤ s.hd.getD k 0 ∧ s.hd.getD k 0 ≤ 1000000000) ∧
    ∀ k, k < s.pd.length → (1 ≤ s.pd.getD k 0 ∧ s.pd.getD k 0 ≤ 1000000) ∧ 0 ≤ s.gr.getD k 0 ∧ s.gr.getD k 0 ≤ 1000000 := by
  unfold soB at h
  rw [Bool.and_eq_true, Bool.and_eq_true] at h
  refine ⟨soLen_true.1 h.1, fun k hk => inR_true.1 (allTo_at h.2.1 hk), fun k hk => ?_⟩
  have := allTo_at h.2.2 hk
  unfold pgB at this
  rw [Bool.and_eq_true] at this
  exact ⟨inR_true.1 this.1, inR_true.1 this.2⟩
/-- Terms are not too great. -/
theorem tmS_bd {s : So} (h : soB s = true) {k : Nat} (hk : k ≤ 1000000) {t : Int} (ht : tmS s k = some t) : -1000000000 ≤ t ∧ t ≤ 1000001000000 ∧ (0 < k → 1 ≤ t) := by
  obtain ⟨⟨h1, h2, h3, h4⟩, h5, h6⟩ := so_at h
  unfold tmS at ht
  split at ht
  · rename_i hlt
    injection ht with ht
    have := h5 k hlt
    split at this <;> omega
  · split at ht
    · cases ht
    · rename_i hp
      injection ht with ht
      have hm : (k - s.hd.length) % s.pd.length < s.pd.length := Nat.mod_lt _ (by omega)
      obtain ⟨⟨a1, a2⟩, a3, a4⟩ := h6 _ hm
      have hq : (k - s.hd.length) / s.pd.length ≤ k := Nat.le_trans (Nat.div_le_self _ _) (by omega)
      generalize (k - s.hd.length) / s.pd.length = q at *
      generalize s.gr.getD ((k - s.hd.length) % s.pd.length) 0 = g at *
      generalize s.pd.getD ((k - s.hd.length) % s.pd.length) 0 = p at *
      have b1 : 0 ≤ (q : Int) * g := Int.mul_nonneg (by omega) a3
      have b2 : (q : Int) * g ≤ 1000000 * 1000000 := Int.mul_le_mul (by omega) a4 a3 (by omega)
      omega
theorem getD_of {xs : List Int} {k : Nat} (h : k < xs.length) : xs[k]? = some (xs.getD k 0) := by
  rw [List.getD_eq_getElem?_getD, List.getElem?_eq_getElem h]; rfl
end Go.Proofs.Ytkimmahmbacjpaa

/- Terms in short form, and two sources compared by their terms: the plain law. No condition but those that each theorem names. -/
namespace Go.Proofs.Ytkimmahmbacjpaa
open Go.RowKit Go.Sort

/-- Terms in short form. -/
def shT (xs : List Int) : List Int := if 1 < xs.length ∧ xs.getD (xs.length - 1) 0 = 1 then (xs.take (xs.length - 1)).set (xs.length - 2) (xs.getD (xs.length - 2) 0 + 1) else xs
theorem shT_yes {xs : List Int} (h1 : 1 < xs.length) (h2 : xs.getD (xs.length - 1) 0 = 1) : shT xs = (xs.take (xs.length - 1)).set (xs.length - 2) (xs.getD (xs.length - 2) 0 + 1) := if_pos ⟨h1, h2⟩
theorem shT_no {xs : List Int} (h : ¬ (1 < xs.length ∧ xs.getD (xs.length - 1) 0 = 1)) : shT xs = xs := if_neg h
theorem shT_le (xs : List Int) : (shT xs).length ≤ xs.length := by
  unfold shT
  split
  · simp only [List.length_set, List.length_take]; omega
  · exact Nat.le_refl _
theorem shT_idem {xs : List Int} (h : ∀ k, 0 < k → k < xs.length → 1 ≤ xs.getD k 0) : shT (shT xs) = shT xs := by
  by_cases c : 1 < xs.length ∧ xs.getD (xs.length - 1) 0 = 1
  · obtain ⟨c1, c2⟩ := c
    rw [shT_yes c1 c2]
    apply shT_no
    rintro ⟨d1, d2⟩
    simp only [List.length_set, List.length_take] at d1 d2
    have hm : min (xs.length - 1) xs.length = xs.length - 1 := by omega
    rw [hm] at d1 d2
    rw [show xs.length - 1 - 1 = xs.length - 2 by omega, List.getD_eq_getElem?_getD, List.getElem?_set] at d2
    simp only [List.length_take, hm] at d2
    rw [if_pos trivial, if_pos (by omega)] at d2
    have := h (xs.length - 2) (by omega) (by omega)
    simp at d2
    simp at this
    omega
  · rw [shT_no c, shT_no c]
theorem expT_last : ∀ (k : Nat) (n d : Int), 1 ≤ d → d ≤ k → d < n → ∃ t, (expT k n d).getLast? = some t ∧ 2 ≤ t
  | 0, _, _, h, hk, _ => by omega
  | k + 1, n, d, h, hk, hn => by
    obtain ⟨j, hj, h1, h2, h3, h4⟩ := expT_step (n := n) h hk
    rw [h4]
    rcases Int.lt_or_le 0 (n % d) with h5 | h5
    · obtain rfl : j = k := by omega
      obtain ⟨t, ht, h2t⟩ := expT_last j d (n % d) (by omega) (by omega) h3
      refine ⟨t, ?_, h2t⟩
      rw [List.getLast?_cons, ht]; rfl
    · have h6 : n % d = 0 := by omega
      rw [h6, expT_zero]
      refine ⟨n / d, rfl, ?_⟩
      have h7 := Int.mul_ediv_add_emod n d
      rw [h6] at h7
      rcases Int.lt_or_le (n / d) 2 with h8 | h8
      · have : d * (n / d) ≤ d * 1 := Int.mul_le_mul_of_nonneg_left (by omega) (by omega)
        omega
      · exact h8
theorem sh_terms (n d : Int) (h : 1 ≤ d) : shT (termsOf n d) = termsOf n d := by
  apply shT_no
  rintro ⟨h1, h2⟩
  unfold termsOf at *
  obtain ⟨j, hj, h3, h4, h5, h6⟩ := expT_step (n := n) (k := d.toNat) h (by omega)
  rw [h6] at h1 h2
  rcases Int.lt_or_le 0 (n % d) with h7 | h7
  · obtain ⟨t, ht, h2t⟩ := expT_last j d (n % d) (by omega) h3 h5
    rw [List.getLast?_eq_getElem?] at ht
    have hp : 0 < (expT j d (n % d)).length := by
      rcases Nat.eq_zero_or_pos (expT j d (n % d)).length with e | e
      · rw [List.getElem?_eq_none (by omega)] at ht; cases ht
      · exact e
    rw [List.length_cons, Nat.add_sub_cancel, List.getD_eq_getElem?_getD, show (expT j d (n % d)).length = (expT j d (n % d)).length - 1 + 1 by omega, List.getElem?_cons_succ, ht] at h2
    simp at h2
    omega
  · rw [show n % d = 0 by omega, expT_zero] at h1
    simp at h1

/-- Which side is greater where a place tells them apart. -/
def sgK (k : Nat) : Int := if k % 2 = 0 then 1 else -1
theorem sgK_succ (k : Nat) : sgK (k + 1) = -sgK k := by unfold sgK; split <;> split <;> omega
theorem sgK_bd (k : Nat) : -1 ≤ sgK k ∧ sgK k ≤ 1 := by unfold sgK; split <;> omega
/-- Two rows of terms, place for place; so many places at most. -/
def cmpF (f g : Nat → Option Int) : Nat → Nat → Int × Int
  | 0, _ => (0, 10)
  | n + 1, k => match f k, g k with
    | none, none => (0, 0)
    | none, some _ => (sgK k, 0)
    | some _, none => (-sgK k, 0)
    | some a, some b => if a < b then (-sgK k, 0) else if b < a then (sgK k, 0) else cmpF f g n (k + 1)
section
variable {f g : Nat → Option Int}
theorem cmp_nn {k : Nat} (hk : k < 1000) (h1 : f k = none) (h2 : g k = none) : cmpF f g (1000 - k) k = (0, 0) := by
  rw [show 1000 - k = (999 - k) + 1 by omega]; unfold cmpF; rw [h1, h2]
theorem cmp_ns {k : Nat} {b : Int} (hk : k < 1000) (h1 : f k = none) (h2 : g k = some b) : cmpF f g (1000 - k) k = (sgK k, 0) := by
  rw [show 1000 - k = (999 - k) + 1 by omega]; unfold cmpF; rw [h1, h2]
theorem cmp_sn {k : Nat} {a : Int} (hk : k < 1000) (h1 : f k = some a) (h2 : g k = none) : cmpF f g (1000 - k) k = (-sgK k, 0) := by
  rw [show 1000 - k = (999 - k) + 1 by omega]; unfold cmpF; rw [h1, h2]
theorem cmp_lt {k : Nat} {a b : Int} (hk : k < 1000) (h1 : f k = some a) (h2 : g k = some b) (h : a < b) : cmpF f g (1000 - k) k = (-sgK k, 0) := by
  rw [show 1000 - k = (999 - k) + 1 by omega]; unfold cmpF; rw [h1, h2]; simp only; rw [if_pos h]
theorem cmp_gt {k : Nat} {a b : Int} (hk : k < 1000) (h1 : f k = some a) (h2 : g k = some b) (h : b < a) : cmpF f g (1000 - k) k = (sgK k, 0) := by
  rw [show 1000 - k = (999 - k) + 1 by omega]; unfold cmpF; rw [h1, h2]; simp only; rw [if_neg (by omega), if_pos h]
theorem cmp_eq {k : Nat} {a b : Int} (hk : k < 1000) (h1 : f k = some a) (h2 : g k = some b) (h : a = b) : cmpF f g (1000 - k) k = cmpF f g (1000 - (k + 1)) (k + 1) := by
  rw [show 1000 - k = (1000 - (k + 1)) + 1 by omega, cmpF, h1, h2]; simp only; rw [if_neg (by omega), if_neg (by omega)]
theorem cmp_end : cmpF f g (1000 - 1000) 1000 = (0, 10) := rfl
end
end Go.Proofs.Ytkimmahmbacjpaa

/- Terms in short form: both walks. No condition but those that each theorem names. -/
namespace Go.Proofs.Ytkimmahmbacjpaa
open Go.RowKit Go.Sort

theorem Rd.take {α : Type} {enc : α → Value} {w : World} {B : Nat} {A : Option Addr} {xs : List α} (h : Rd enc w B A xs) (k : Nat) : Rd enc w B A (xs.take k) := fun hn => by
  obtain ⟨b, off, e, hb, hc⟩ := h (by rw [List.length_take] at hn; omega)
  exact ⟨b, off, e, hb, fun j x hx => hc j x (by rw [List.getElem?_take] at hx; split at hx; exact hx; cases hx)⟩
theorem Wr.take {α : Type} {enc : α → Value} {w : World} {B : Nat} {A : Option Addr} {xs : List α} (h : Wr enc w B A xs) (k : Nat) : Wr enc w B A (xs.take k) := fun hn => by
  obtain ⟨b, off, e, hb, hl, hc, hf⟩ := h (by rw [List.length_take] at hn; omega)
  exact ⟨b, off, e, hb, hl, fun j x hx => hc j x (by rw [List.getElem?_take] at hx; split at hx; exact hx; cases hx), hf⟩
theorem Wr.setAt {w : World} {B b off j : Nat} {xs : List Int} {x : Int} (h : Wr (Value.int .i64) w B (some ⟨b, off, none⟩) xs) (hj : j < xs.length) : Wr (Value.int .i64) (w.setCell ⟨b, off + j, none⟩ (.int .i64 x)) B (some ⟨b, off, none⟩) (xs.set j x) := fun _ => by
  obtain ⟨b', off', e, hb, hl, hc, hf⟩ := h (by omega)
  injection e with e
  injection e with e1 e2
  subst e1 e2
  refine ⟨b, off, rfl, hb, by simpa using hl, fun i y hy => ?_, fun i => (World.frozen?_setCell _ _ _ _).trans (hf i)⟩
  by_cases hij : i = j
  · subst hij
    rw [List.getElem?_set_self hj] at hy
    obtain rfl := Option.some.inj hy
    exact World.cell?_setCell_same _ _ _ (hc i _ (List.getElem?_eq_getElem hj))
  · rw [List.getElem?_set_ne (fun e => hij e.symm)] at hy
    exact (World.cell?_setCell_other _ _ _ _ (by intro e; injection e; omega)).trans (hc i y hy)
theorem RetCap.of {w w' : World} {A : Option Addr} {n c : Nat} {ys : List Int} (hn : ys.length = n) (hw : Wr (Value.int .i64) w' w.heap.size A ys) (hc : ys.length ≤ c ∧ c ≤ maxLen) (hb : Below w.heap.size w w') : RetCap w ys (.returned (.slice A n c)) w' := by
  subst hn; exact ⟨A, c, rfl, hw, hc, hb⟩
theorem getD_last {xs : List Int} {m : Nat} (h : xs.length = m + 2) : xs[m + 1]? = some (xs.getD (xs.length - 1) 0) := by
  rw [show xs.length - 1 = m + 1 by omega]
  exact getD_of (by omega)
set_option maxRecDepth 100000 in
set_option maxHeartbeats 1000000 in
theorem shortForm_any (A : Option Addr) (c : Nat) (xs : List Int) (w : World) (hx : Rd (Value.int .i64) w w.heap.size A xs) (hm : xs.length ≤ 1000) (hcap : xs.length ≤ c ∧ c ≤ maxLen) (hb : ∀ x ∈ xs, -2000000000 ≤ x ∧ x ≤ 2000000000) :
    Calls Try.prog 69 #[.slice A xs.length c] w (RetCap w (shT xs)) := by
  obtain ⟨hc1, hc2⟩ := hcap
  rcases Nat.lt_or_ge 1 xs.length with h1 | h1
  · obtain ⟨m, hm2⟩ : ∃ m, xs.length = m + 2 := ⟨xs.length - 2, by omega⟩
    have hlast := getD_last hm2
    have HM := Lib.hid hm2
    have HCL : Hid (∀ W, Below w.heap.size w W → Calls Try.prog 102 #[.slice A (m + 2) c] W (RetCap W xs)) := fun W h => by
      have k := clone_any A c xs W ((hx.below h).more h.size) (by omega)
      rwa [hm2] at k
    have HCT : Hid (∀ W, Below w.heap.size w W → Calls Try.prog 102 #[.slice A (m + 1) c] W (RetCap W (xs.take (m + 1)))) := fun W h => by
      have k := clone_any A c (xs.take (m + 1)) W (((hx.below h).more h.size).take _) (by rw [List.length_take]; omega)
      rwa [List.length_take, show min (m + 1) xs.length = m + 1 by omega] at k
    have i1 : (m : Int) + 1 ≤ (c : Int) := by omega
    have i2 : (0 : Int) ≤ (m : Int) + 1 := by omega
    have i3 : (m : Int) + 1 < (m : Int) + 2 := by omega
    have i4 : (m : Int) + 2 ≤ 1000 := by omega
    have i5 : m + 1 < m + 2 := by omega
    have i6 : m + 2 ≤ 1000 := by omega
    have i7 : (1 : Int) < (m : Int) + 2 := by omega
    have i8 : 1 < m + 2 := by omega
    have hpre : xs[m]? = some (xs.getD m 0) := getD_of (by omega)
    obtain ⟨b, off, rfl, hb0, hc⟩ := hx (by omega)
    have cl := hc _ _ hlast
    obtain ⟨pb1, pb2⟩ := hb _ (List.mem_of_getElem? hpre)
    clear hc hx
    by_cases h2 : xs.getD (xs.length - 1) 0 = 1
    · have HE : Hid (shT xs = (xs.take (m + 1)).set m (xs.getD m 0 + 1)) := by
        unfold Hid
        rw [shT_yes h1 h2, hm2]; rfl
      rw [HE.out]
      rw [h2] at cl
      have ht : (xs.take (m + 1)).length = m + 1 := by rw [List.length_take]; omega
      have hp2 : (xs.take (m + 1))[m]? = some (xs.getD m 0) := by rw [List.getElem?_take, if_pos (by omega)]; exact hpre
      have HT := Lib.hid (And.intro ht hp2)
      have HP := Lib.hid hpre
      rw [hm2]
      generalize xs.getD m 0 = q at *
      clear ht hp2 hpre hlast hm2 h2 h1 hm hc1 hb
      go_enter Try.func69, Try.ntmps69
      go_wp2_with (go_at_call 102; (with_reducible refine (HCT.out _ (Below.refl _ _)).mono ?_); rintro e w1 ⟨A1, c1, rfl, hw1, hcc1, hb1⟩; obtain ⟨b1, off1, rfl, hbb, hlt, hcx, hfx⟩ := hw1 (by rw [HT.out.1]; omega); have x1 := hcx _ _ HT.out.2; have f1 := hfx (off1 + m); have HW := Lib.hid hw1; have HL1 : Hid ((xs.take (m + 1)).length ≤ c1 ∧ c1 ≤ maxLen) := hcc1; clear hcx hfx hw1 hcc1; (try simp only [HT.out.1]))
      go_ret
      exact RetCap.of (by have h := HT.out.1; rw [List.length_set]; omega) (HW.out.setAt (by rw [HT.out.1]; omega)) (by rw [List.length_set]; exact HL1.out) (ext_set hb1 (by exact hbb) _)
    · have HE : Hid (shT xs = xs) := shT_no (fun h => h2 h.2)
      have hne : (xs.getD (xs.length - 1) 0 == 1) = false := by simpa using h2
      rw [HE.out, hm2]
      generalize xs.getD (xs.length - 1) 0 = q at *
      clear hlast hm2 h2 h1 hm hc1 hb hpre
      go_enter Try.func69, Try.ntmps69
      go_wp2_with (go_at_call 102; (with_reducible refine (HCL.out _ (Below.refl _ _)).mono ?_); rintro e w1 ⟨A1, c1, rfl, hw1, hcc1, hb1⟩)
      go_ret
      exact ⟨A1, c1, rfl, hw1, hcc1, hb1⟩
  · have HE : Hid (shT xs = xs) := shT_no (fun h => by omega)
    have h1n : ¬ 1 < xs.length := by omega
    have h1i : ¬ (1 : Int) < (xs.length : Int) := by omega
    rw [HE.out]
    have HCL : Hid (∀ W, Below w.heap.size w W → Calls Try.prog 102 #[.slice A xs.length c] W (RetCap W xs)) := fun W h => clone_any A c xs W ((hx.below h).more h.size) (by omega)
    go_enter Try.func69, Try.ntmps69
    go_wp2_with (go_at_call 102; (with_reducible refine (HCL.out _ (Below.refl _ _)).mono ?_); rintro e w1 ⟨A1, c1, rfl, hw1, hcc1, hb1⟩)
    go_ret
    exact ⟨A1, c1, rfl, hw1, hcc1, hb1⟩
set_option maxRecDepth 100000 in
set_option maxHeartbeats 1000000 in
theorem l03Short_any (A : Option Addr) (c : Nat) (xs : List Int) (w : World) (hx : Rd (Value.int .i64) w w.heap.size A xs) (hm : xs.length ≤ 1000) (hcap : xs.length ≤ c ∧ c ≤ maxLen) (hb : ∀ x ∈ xs, -2000000000 ≤ x ∧ x ≤ 2000000000) :
    Calls Try.prog 78 #[.slice A xs.length c] w (RetCap w (shT xs)) := by
  obtain ⟨hc1, hc2⟩ := hcap
  rcases Nat.lt_or_ge 1 xs.length with h1 | h1
  · obtain ⟨m, hm2⟩ : ∃ m, xs.length = m + 2 := ⟨xs.length - 2, by omega⟩
    have hlast := getD_last hm2
    have HM := Lib.hid hm2
    have HCL : Hid (∀ W, Below w.heap.size w W → Calls Try.prog 80 #[.slice A (m + 2) c] W (RetCap W xs)) := fun W h => by
      have k := l00Own_any A c xs W ((hx.below h).more h.size) (by omega)
      rwa [hm2] at k
    have HCT : Hid (∀ W, Below w.heap.size w W → Calls Try.prog 80 #[.slice A (m + 1) c] W (RetCap W (xs.take (m + 1)))) := fun W h => by
      have k := l00Own_any A c (xs.take (m + 1)) W (((hx.below h).more h.size).take _) (by rw [List.length_take]; omega)
      rwa [List.length_take, show min (m + 1) xs.length = m + 1 by omega] at k
    have i1 : (m : Int) + 1 ≤ (c : Int) := by omega
    have i2 : (0 : Int) ≤ (m : Int) + 1 := by omega
    have i3 : (m : Int) + 1 < (m : Int) + 2 := by omega
    have i4 : (m : Int) + 2 ≤ 1000 := by omega
    have i5 : m + 1 < m + 2 := by omega
    have i6 : m + 2 ≤ 1000 := by omega
    have i7 : (1 : Int) < (m : Int) + 2 := by omega
    have i8 : 1 < m + 2 := by omega
    have hpre : xs[m]? = some (xs.getD m 0) := getD_of (by omega)
    obtain ⟨b, off, rfl, hb0, hc⟩ := hx (by omega)
    have cl := hc _ _ hlast
    obtain ⟨pb1, pb2⟩ := hb _ (List.mem_of_getElem? hpre)
    clear hc hx
    by_cases h2 : xs.getD (xs.length - 1) 0 = 1
    · have HE : Hid (shT xs = (xs.take (m + 1)).set m (xs.getD m 0 + 1)) := by
        unfold Hid
        rw [shT_yes h1 h2, hm2]; rfl
      rw [HE.out]
      rw [h2] at cl
      have ht : (xs.take (m + 1)).length = m + 1 := by rw [List.length_take]; omega
      have hp2 : (xs.take (m + 1))[m]? = some (xs.getD m 0) := by rw [List.getElem?_take, if_pos (by omega)]; exact hpre
      have HT := Lib.hid (And.intro ht hp2)
      have HP := Lib.hid hpre
      rw [hm2]
      generalize xs.getD m 0 = q at *
      clear ht hp2 hpre hlast hm2 h2 h1 hm hc1 hb
      go_enter Try.func78, Try.ntmps78
      go_wp2_with fail
      refine (HCL.out _ (Below.refl _ _)).mono ?_
      rintro e w1 ⟨A1, c1, rfl, hw1, hcc1, hb1⟩
      obtain ⟨b1, off1, rfl, hbb, hlt, hcx, hfx⟩ := hw1 (by rw [HM.out]; omega)
      have x1 := hcx _ _ HP.out
      have f1 := hfx (off1 + m)
      have HW := Lib.hid hw1
      have HL1 : Hid (xs.length ≤ c1 ∧ c1 ≤ maxLen) := hcc1
      have hcm : m + 2 ≤ c1 := by
        have := hcc1.1
        rwa [HM.out] at this
      have hcmi : (m : Int) + 1 ≤ (c1 : Int) := by omega
      have hcl1 := (hb1.cell (p := ⟨b, off + (m + 1), none⟩) hb0).trans cl
      clear hcx hfx hw1 hcc1
      rw [HM.out]
      go_wp2
      go_ret
      exact RetCap.of (by have h := HT.out.1; rw [List.length_set]; omega) ((HW.out.take (m + 1)).setAt (by rw [HT.out.1]; omega)) (by rw [List.length_set, HT.out.1]; exact ⟨by omega, HL1.out.2⟩) (ext_set hb1 (by exact hbb) _)
    · have HE : Hid (shT xs = xs) := shT_no (fun h => h2 h.2)
      have hne : (xs.getD (xs.length - 1) 0 == 1) = false := by simpa using h2
      rw [HE.out, hm2]
      generalize xs.getD (xs.length - 1) 0 = q at *
      clear hlast hm2 h2 h1 hm hc1 hb hpre
      go_enter Try.func78, Try.ntmps78
      go_wp2_with (go_at_call 80; (with_reducible refine (HCL.out _ (Below.refl _ _)).mono ?_); rintro e w1 ⟨A1, c1, rfl, hw1, hcc1, hb1⟩; (try (have cl1 := (hb1.cell (p := ⟨b, off + (m + 1), none⟩) hb0).trans cl)))
      refine bodyPost_ret (v := .slice A1 xs.length c1) (by simp [results, Try.results78, go_sem]; done) rfl ⟨A1, c1, rfl, hw1, hcc1, hb1⟩
  · have HE : Hid (shT xs = xs) := shT_no (fun h => by omega)
    have h1n : ¬ 1 < xs.length := by omega
    have h1i : ¬ (1 : Int) < (xs.length : Int) := by omega
    rw [HE.out]
    have HCL : Hid (∀ W, Below w.heap.size w W → Calls Try.prog 80 #[.slice A xs.length c] W (RetCap W xs)) := fun W h => l00Own_any A c xs W ((hx.below h).more h.size) (by omega)
    go_enter Try.func78, Try.ntmps78
    go_wp2_with (go_at_call 80; (with_reducible refine (HCL.out _ (Below.refl _ _)).mono ?_); rintro e w1 ⟨A1, c1, rfl, hw1, hcc1, hb1⟩; (try (have cl1 := (hb1.cell (p := ⟨b, off + (m + 1), none⟩) hb0).trans cl)))
    refine bodyPost_ret (v := .slice A1 xs.length c1) (by simp [results, Try.results78, go_sem]; done) rfl ⟨A1, c1, rfl, hw1, hcc1, hb1⟩
end Go.Proofs.Ytkimmahmbacjpaa

/- Sources of terms: both walks. No condition but those that each theorem names. -/
namespace Go.Proofs.Ytkimmahmbacjpaa
open Go.RowKit Go.Sort

@[reducible] def souV (H : Option Addr) (a ca : Nat) (P : Option Addr) (b cb : Nat) (G : Option Addr) (c cc : Nat) : Value := .agg #[.slice H a ca, .slice P b cb, .slice G c cc]
/-- The three slices read as a source. -/
structure RdSo (w : World) (B : Nat) (H P G : Option Addr) (s : So) : Prop where
  h : Rd (Value.int .i64) w B H s.hd
  p : Rd (Value.int .i64) w B P s.pd
  g : Rd (Value.int .i64) w B G s.gr
theorem RdSo.below {w w' : World} {B : Nat} {H P G : Option Addr} {s : So} (h : RdSo w B H P G s) (hb : Below B w w') : RdSo w' B H P G s := ⟨h.h.below hb, h.p.below hb, h.g.below hb⟩
theorem RdSo.more {w : World} {B B' : Nat} {H P G : Option Addr} {s : So} (h : RdSo w B H P G s) (hB : B ≤ B') : RdSo w B' H P G s := ⟨h.h.more hB, h.p.more hB, h.g.more hB⟩
theorem RdSo.next {w w' : World} {H P G : Option Addr} {s : So} (h : RdSo w w.heap.size H P G s) (hb : Below w.heap.size w w') : RdSo w' w'.heap.size H P G s := (h.below hb).more hb.size
/-- A source in block g. -/
structure SoAt (w : World) (g : Nat) (H P G : Option Addr) (ch cp cg : Nat) (s : So) : Prop where
  c0 : w.cell? ⟨g, 0, none⟩ = some (.slice H s.hd.length ch)
  c1 : w.cell? ⟨g, 1, none⟩ = some (.slice P s.pd.length cp)
  c2 : w.cell? ⟨g, 2, none⟩ = some (.slice G s.gr.length cg)
theorem SoAt.of_box {w : World} {g : Nat} {H P G : Option Addr} {ch cp cg : Nat} {s : So} (h : BoxV g [.slice H s.hd.length ch, .slice P s.pd.length cp, .slice G s.gr.length cg] w) : SoAt w g H P G ch cp cg s := ⟨h.at 0 _ rfl, h.at 1 _ rfl, h.at 2 _ rfl⟩
theorem SoAt.drewN {w : World} {g n : Nat} {H P G : Option Addr} {ch cp cg : Nat} {s : So} (h : SoAt w g H P G ch cp cg s) : SoAt (w.drewN n) g H P G ch cp cg s := ⟨h.c0, h.c1, h.c2⟩
theorem SoAt.below {w w' : World} {g B : Nat} {H P G : Option Addr} {ch cp cg : Nat} {s : So} (h : SoAt w g H P G ch cp cg s) (hb : Below B w w') (hg : g < B) : SoAt w' g H P G ch cp cg s :=
  ⟨(hb.cell (p := ⟨g, 0, none⟩) hg).trans h.c0, (hb.cell (p := ⟨g, 1, none⟩) hg).trans h.c1, (hb.cell (p := ⟨g, 2, none⟩) hg).trans h.c2⟩
theorem below_drewN {B n : Nat} {w w' : World} (h : Below B w w') : Below B w (w'.drewN n) := ⟨h.os, h.tape, h.output, h.size, h.block⟩
theorem sizeT_any (A : Option Addr) (n c : Nat) (w : World) : Calls Try.prog 72 #[.slice A n c] w fun e w' => e = .returned (.int .i64 (n : Int)) ∧ w = w' := by
  go_enter Try.func72, Try.ntmps72
  go_wp2
  go_ret
  exact ⟨rfl, rfl⟩

/-- What decides the tests ahead of the loops. -/
theorem soLen_bad {s : So} (h : ¬ (s.hd.length ≤ 30 ∧ s.pd.length ≤ 30 ∧ s.gr.length = s.pd.length ∧ s.hd.length + s.pd.length ≠ 0)) : soB s = false := by
  have : soLen s = false := by
    cases e : soLen s
    · rfl
    · exact absurd (soLen_true.1 e) h
  unfold soB
  rw [this, Bool.false_and]
end Go.Proofs.Ytkimmahmbacjpaa

/- The terms of sources: both walks. No condition but those that each theorem names. -/
namespace Go.Proofs.Ytkimmahmbacjpaa
open Go.RowKit Go.Sort

/-- What the walks of a term ask of a source. -/
def TmB (s : So) : Prop := s.hd.length ≤ 1000 ∧ s.pd.length ≤ 1000 ∧ s.gr.length = s.pd.length ∧ ∀ k, k < s.pd.length → (-1000000000 ≤ s.pd.getD k 0 ∧ s.pd.getD k 0 ≤ 1000000000) ∧ 0 ≤ s.gr.getD k 0 ∧ s.gr.getD k 0 ≤ 1000000
theorem soB_tm {s : So} (h : soB s = true) : TmB s := by
  obtain ⟨⟨l1, l2, l3, l4⟩, _, B2⟩ := so_at h
  exact ⟨by omega, by omega, l3, fun k hk => by have := B2 k hk; omega⟩
set_option maxRecDepth 100000 in
set_option maxHeartbeats 2000000 in
theorem termAt_any (s : So) (H P G : Option Addr) (ch cp cg k : Nat) (w : World) (hr : RdSo w w.heap.size H P G s) (hs : TmB s) (hk : k ≤ 1000000) :
    Calls Try.prog 71 #[souV H s.hd.length ch P s.pd.length cp G s.gr.length cg, .int .i64 (k : Int)] w fun e w' => e = .returned (.tuple #[.int .i64 ((tmS s k).getD 0), .bool (tmS s k).isSome]) ∧ Below w.heap.size w w' := by
  unfold souV
  have HR := Lib.hid (hr.below (ext1 w (.cells #[.slice H s.hd.length ch, .slice P s.pd.length cp, .slice G s.gr.length cg] 72)))
  have HB := Lib.hid (ext1 w (.cells #[.slice H s.hd.length ch, .slice P s.pd.length cp, .slice G s.gr.length cg] 72))
  obtain ⟨x0, x1, x2⟩ : SoAt (w.alloc (.cells #[.slice H s.hd.length ch, .slice P s.pd.length cp, .slice G s.gr.length cg] 72)) w.heap.size H P G ch cp cg s := SoAt.of_box (BoxV.new w #[.slice H s.hd.length ch, .slice P s.pd.length cp, .slice G s.gr.length cg] 72)
  clear hr
  obtain ⟨l1, l2, l3, B2⟩ := hs
  have L3 := Lib.hid l3
  clear l3
  by_cases hlt : k < s.hd.length
  · have HE : Hid (tmS s k = some (s.hd.getD k 0)) := by unfold Hid tmS; rw [if_pos hlt]
    rw [HE.out]
    clear HE
    obtain ⟨b, off, rfl, hb, hc⟩ := HR.out.h (by omega)
    have cx := hc k _ (getD_of hlt)
    have i0 : (0 : Int) ≤ (k : Int) := by omega
    have i1 : (k : Int) < (s.hd.length : Int) := by omega
    clear hc B2
    generalize s.hd.getD k 0 = t at *
    go_enter Try.func71, Try.ntmps71
    go_wp2_with (go_at_call 72; refine (sizeT_any _ _ _ _).mono ?_; rintro e w' ⟨rfl, rfl⟩)
    go_ret2
    exact ⟨rfl, HB.out⟩
  · have i1 : ¬ (k : Int) < (s.hd.length : Int) := by omega
    by_cases hp : s.pd.length = 0
    · have HE : Hid (tmS s k = none) := by unfold Hid tmS; rw [if_neg hlt, if_pos hp]
      rw [HE.out]
      have e0 : ((s.pd.length : Int) == 0) = true := by simp; exact List.eq_nil_of_length_eq_zero hp
      have HP := Lib.hid hp
      clear HE hp B2
      go_enter Try.func71, Try.ntmps71
      go_wp2_with (go_at_call 72; refine (sizeT_any _ _ _ _).mono ?_; rintro e w' ⟨rfl, rfl⟩)
      go_ret2
      exact ⟨rfl, HB.out⟩
    · obtain ⟨j, hj⟩ : ∃ j : Nat, k = s.hd.length + j := ⟨k - s.hd.length, by omega⟩
      have HE : Hid (tmS s k = some (s.pd.getD (j % s.pd.length) 0 + ((j / s.pd.length : Nat) : Int) * s.gr.getD (j % s.pd.length) 0)) := by
        unfold Hid tmS
        rw [if_neg hlt, if_neg hp, show k - s.hd.length = j by omega]
      have hm : j % s.pd.length < s.pd.length := Nat.mod_lt _ (by omega)
      obtain ⟨⟨a1, a2⟩, a3, a4⟩ := B2 _ hm
      have hq : j / s.pd.length ≤ j := Nat.div_le_self _ _
      obtain ⟨b, off, rfl, hb, hc⟩ := HR.out.p (by omega)
      obtain ⟨b', off', rfl, hb', hc'⟩ := HR.out.g (by have := L3.out; omega)
      have cx := hc _ _ (getD_of hm)
      have cy := hc' _ _ (getD_of (show j % s.pd.length < s.gr.length by have := L3.out; omega))
      have ej : (k : Int) - (s.hd.length : Int) = (j : Int) := by omega
      have em : (j : Int) % (s.pd.length : Int) = ((j % s.pd.length : Nat) : Int) := by simp
      have em2 : (j : Int).tmod (s.pd.length : Int) = ((j % s.pd.length : Nat) : Int) := by rw [Int.tmod_eq_emod_of_nonneg (by omega)]; simp
      have eq : (j : Int) / (s.pd.length : Int) = ((j / s.pd.length : Nat) : Int) := by simp
      have eq2 : (j : Int).tdiv (s.pd.length : Int) = ((j / s.pd.length : Nat) : Int) := by rw [Int.tdiv_eq_ediv_of_nonneg (by omega)]; simp
      have e0 : ((s.pd.length : Int) == 0) = false := by simp; intro h; exact hp (by rw [h]; rfl)
      have e1 : ¬ ((s.pd.length : Int) = 0) := by omega
      have e1n : ¬ (s.pd.length = 0) := hp
      have e1l : ¬ (s.pd = []) := fun h => hp (by rw [h]; rfl)
      rw [HE.out]
      have i0 : (0 : Int) ≤ ((j % s.pd.length : Nat) : Int) := by omega
      have i2 : ((j % s.pd.length : Nat) : Int) < (s.pd.length : Int) := by omega
      have i3 : ((j % s.pd.length : Nat) : Int) < (s.gr.length : Int) := by have := L3.out; omega
      have HJ := Lib.hid hj
      have HP := Lib.hid hp
      clear hc hc' B2 HE hm hp hj
      generalize j % s.pd.length = m at *
      generalize j / s.pd.length = q at *
      generalize s.pd.getD m 0 = p at *
      generalize s.gr.getD m 0 = g' at *
      have b1 : 0 ≤ (q : Int) * g' := Int.mul_nonneg (by omega) a3
      have b2 : (q : Int) * g' ≤ 1000000 * 1000000 := Int.mul_le_mul (by omega) a4 a3 (by omega)
      have v1 : IntKind.i64.wrap ((k : Int) - (s.hd.length : Int)) = (j : Int) := by rw [ej]; exact IntWalk.i64_in _ (by omega)
      have v2 : IntKind.i64.wrap (m : Int) = (m : Int) := IntWalk.i64_in _ (by omega)
      have v3 : IntKind.i64.wrap (q : Int) = (q : Int) := IntWalk.i64_in _ (by omega)
      have v4 : IntKind.i64.wrap ((q : Int) * g') = (q : Int) * g' := IntWalk.i64_in _ (by omega)
      have v5 : IntKind.i64.wrap (p + (q : Int) * g') = p + (q : Int) * g' := IntWalk.i64_in _ (by omega)
      have v6 : IntKind.i64.wrap (j : Int) = (j : Int) := IntWalk.i64_in _ (by omega)
      go_enter Try.func71, Try.ntmps71
      go_wp2_with (go_at_call 72; refine (sizeT_any _ _ _ _).mono ?_; rintro e w' ⟨rfl, rfl⟩)
      go_quiet (fail)
      go_wp2
      go_ret2
      exact ⟨rfl, below_drewN HB.out⟩
set_option maxRecDepth 100000 in
set_option maxHeartbeats 2000000 in
theorem l15Term_any (s : So) (gg : Nat) (H P G : Option Addr) (ch cp cg k : Nat) (W : World) (hr : RdSo W W.heap.size H P G s) (ha : SoAt W gg H P G ch cp cg s) (hs : TmB s) (hk : k ≤ 1000000) :
    Calls Try.prog 81 #[.pointer (some ⟨gg, 0, none⟩), .int .i64 (k : Int)] W fun e w' => e = .returned (.tuple #[.int .i64 ((tmS s k).getD 0), .bool (tmS s k).isSome]) ∧ Below W.heap.size W w' := by
  obtain ⟨x0, x1, x2⟩ := ha
  have HR := Lib.hid hr
  have HB := Lib.hid (Below.refl W.heap.size W)
  clear hr
  obtain ⟨l1, l2, l3, B2⟩ := hs
  have L3 := Lib.hid l3
  clear l3
  by_cases hlt : k < s.hd.length
  · have HE : Hid (tmS s k = some (s.hd.getD k 0)) := by unfold Hid tmS; rw [if_pos hlt]
    rw [HE.out]
    clear HE
    obtain ⟨b, off, rfl, hb, hc⟩ := HR.out.h (by omega)
    have cx := hc k _ (getD_of hlt)
    have i0 : (0 : Int) ≤ (k : Int) := by omega
    have i1 : (k : Int) < (s.hd.length : Int) := by omega
    clear hc B2
    generalize s.hd.getD k 0 = t at *
    go_enter Try.func81, Try.ntmps81
    go_wp2_with (fail)
    go_ret2
    exact ⟨rfl, HB.out⟩
  · have i1 : ¬ (k : Int) < (s.hd.length : Int) := by omega
    by_cases hp : s.pd.length = 0
    · have HE : Hid (tmS s k = none) := by unfold Hid tmS; rw [if_neg hlt, if_pos hp]
      rw [HE.out]
      have e0 : ((s.pd.length : Int) == 0) = true := by simp; exact List.eq_nil_of_length_eq_zero hp
      have HP := Lib.hid hp
      clear HE hp B2
      go_enter Try.func81, Try.ntmps81
      go_wp2_with (fail)
      go_ret2
      exact ⟨rfl, HB.out⟩
    · obtain ⟨j, hj⟩ : ∃ j : Nat, k = s.hd.length + j := ⟨k - s.hd.length, by omega⟩
      have HE : Hid (tmS s k = some (s.pd.getD (j % s.pd.length) 0 + ((j / s.pd.length : Nat) : Int) * s.gr.getD (j % s.pd.length) 0)) := by
        unfold Hid tmS
        rw [if_neg hlt, if_neg hp, show k - s.hd.length = j by omega]
      have hm : j % s.pd.length < s.pd.length := Nat.mod_lt _ (by omega)
      obtain ⟨⟨a1, a2⟩, a3, a4⟩ := B2 _ hm
      have hq : j / s.pd.length ≤ j := Nat.div_le_self _ _
      obtain ⟨b, off, rfl, hb, hc⟩ := HR.out.p (by omega)
      obtain ⟨b', off', rfl, hb', hc'⟩ := HR.out.g (by have := L3.out; omega)
      have cx := hc _ _ (getD_of hm)
      have cy := hc' _ _ (getD_of (show j % s.pd.length < s.gr.length by have := L3.out; omega))
      have ej : (k : Int) - (s.hd.length : Int) = (j : Int) := by omega
      have em : (j : Int) % (s.pd.length : Int) = ((j % s.pd.length : Nat) : Int) := by simp
      have em2 : (j : Int).tmod (s.pd.length : Int) = ((j % s.pd.length : Nat) : Int) := by rw [Int.tmod_eq_emod_of_nonneg (by omega)]; simp
      have eq : (j : Int) / (s.pd.length : Int) = ((j / s.pd.length : Nat) : Int) := by simp
      have eq2 : (j : Int).tdiv (s.pd.length : Int) = ((j / s.pd.length : Nat) : Int) := by rw [Int.tdiv_eq_ediv_of_nonneg (by omega)]; simp
      have e0 : ((s.pd.length : Int) == 0) = false := by simp; intro h; exact hp (by rw [h]; rfl)
      have e1 : ¬ ((s.pd.length : Int) = 0) := by omega
      have e1n : ¬ (s.pd.length = 0) := hp
      have e1l : ¬ (s.pd = []) := fun h => hp (by rw [h]; rfl)
      rw [HE.out]
      have i0 : (0 : Int) ≤ ((j % s.pd.length : Nat) : Int) := by omega
      have i2 : ((j % s.pd.length : Nat) : Int) < (s.pd.length : Int) := by omega
      have i3 : ((j % s.pd.length : Nat) : Int) < (s.gr.length : Int) := by have := L3.out; omega
      have HJ := Lib.hid hj
      have HP := Lib.hid hp
      clear hc hc' B2 HE hm hp hj
      generalize j % s.pd.length = m at *
      generalize j / s.pd.length = q at *
      generalize s.pd.getD m 0 = p at *
      generalize s.gr.getD m 0 = g' at *
      have b1 : 0 ≤ (q : Int) * g' := Int.mul_nonneg (by omega) a3
      have b2 : (q : Int) * g' ≤ 1000000 * 1000000 := Int.mul_le_mul (by omega) a4 a3 (by omega)
      have v1 : IntKind.i64.wrap ((k : Int) - (s.hd.length : Int)) = (j : Int) := by rw [ej]; exact IntWalk.i64_in _ (by omega)
      have v2 : IntKind.i64.wrap (m : Int) = (m : Int) := IntWalk.i64_in _ (by omega)
      have v3 : IntKind.i64.wrap (q : Int) = (q : Int) := IntWalk.i64_in _ (by omega)
      have v4 : IntKind.i64.wrap ((q : Int) * g') = (q : Int) * g' := IntWalk.i64_in _ (by omega)
      have v5 : IntKind.i64.wrap (p + (q : Int) * g') = p + (q : Int) * g' := IntWalk.i64_in _ (by omega)
      have v6 : IntKind.i64.wrap (j : Int) = (j : Int) := IntWalk.i64_in _ (by omega)
      go_enter Try.func81, Try.ntmps81
      go_wp2_with (fail)
      go_quiet (fail)
      go_wp2
      go_ret2
      exact ⟨rfl, below_drewN HB.out⟩
end Go.Proofs.Ytkimmahmbacjpaa

/- The program's sources in short form, and how two of them compare: the walks. No condition but those that each theorem names. -/
namespace Go.Proofs.Ytkimmahmbacjpaa
open Go.RowKit Go.Sort

@[reducible] def shV (H : Option Addr) (a ca : Nat) (P : Option Addr) (b cb : Nat) (G : Option Addr) (c cc : Nat) (L : Option Addr) (n cl : Nat) (fin : Bool) : Value := .agg #[.slice H a ca, .slice P b cb, .slice G c cc, .slice L n cl, .bool fin]
/-- A source in short form whose terms are f. -/
def ShOk (w : World) (B : Nat) (H : Option Addr) (a : Nat) (P : Option Addr) (b : Nat) (G : Option Addr) (c : Nat) (L : Option Addr) (n : Nat) (fin : Bool) (f : Nat → Option Int) : Prop :=
  (fin = true ∧ ∃ xs : List Int, n = xs.length ∧ Rd (Value.int .i64) w B L xs ∧ xs.length ≤ 1000 ∧ ∀ k, f k = xs[k]?) ∨
  (fin = false ∧ ∃ s : So, a = s.hd.length ∧ b = s.pd.length ∧ c = s.gr.length ∧ RdSo w B H P G s ∧ TmB s ∧ ∀ k, f k = tmS s k)
theorem ShOk.next {w w' : World} {H P G L : Option Addr} {a b c n : Nat} {fin : Bool} {f : Nat → Option Int} (h : ShOk w w.heap.size H a P b G c L n fin f) (hb : Below w.heap.size w w') : ShOk w' w'.heap.size H a P b G c L n fin f := by
  rcases h with ⟨h1, xs, h2, h3, h4⟩ | ⟨h1, s, h2, h3, h4, h5, h6⟩
  · exact .inl ⟨h1, xs, h2, (h3.below hb).more hb.size, h4⟩
  · exact .inr ⟨h1, s, h2, h3, h4, h5.next hb, h6⟩
set_option maxHeartbeats 1000000 in
theorem shAt_any (H : Option Addr) (a ca : Nat) (P : Option Addr) (b cb : Nat) (G : Option Addr) (c cc : Nat) (L : Option Addr) (n cl : Nat) (fin : Bool) (f : Nat → Option Int) (k : Nat) (w : World) (h : ShOk w w.heap.size H a P b G c L n fin f) (hk : k ≤ 1000) :
    Calls Try.prog 39 #[shV H a ca P b cb G c cc L n cl fin, .int .i64 (k : Int)] w fun e w' => e = .returned (.tuple #[.int .i64 ((f k).getD 0), .bool (f k).isSome]) ∧ Below w.heap.size w w' := by
  unfold shV
  rcases h with ⟨rfl, xs, rfl, h3, h4, h5⟩ | ⟨rfl, s, rfl, rfl, rfl, h5, h6, h7⟩
  · rw [h5 k]
    clear h5 f
    by_cases hlt : k < xs.length
    · obtain ⟨bb, off, rfl, hb, hc⟩ := h3 (by omega)
      have cx : (w.alloc (.cells #[.slice H a ca, .slice P b cb, .slice G c cc, .slice (some ⟨bb, off, none⟩) xs.length cl, .bool true] 74)).cell? ⟨bb, off + k, none⟩ = some (.int .i64 xs[k]) := (World.cell?_alloc_lt _ _ _ hb).trans (hc k _ (List.getElem?_eq_getElem hlt))
      have i0 : (0 : Int) ≤ (k : Int) := by omega
      have i1 : (k : Int) < (xs.length : Int) := by omega
      have HE : Hid (xs[k]? = some xs[k]) := List.getElem?_eq_getElem hlt
      rw [HE.out]
      clear hc HE
      generalize xs[k] = t at *
      go_enter Try.func39, Try.ntmps39
      go_wp2_with (go_at_call 72; refine (sizeT_any _ _ _ _).mono ?_; rintro e w' ⟨rfl, rfl⟩)
      go_ret2
      exact ⟨rfl, ext1 _ _⟩
    · have i1 : ¬ (k : Int) < (xs.length : Int) := by omega
      have HE : Hid (xs[k]? = none) := List.getElem?_eq_none (by omega)
      rw [HE.out]
      clear h3 HE
      go_enter Try.func39, Try.ntmps39
      go_wp2_with (go_at_call 72; refine (sizeT_any _ _ _ _).mono ?_; rintro e w' ⟨rfl, rfl⟩)
      go_ret2
      exact ⟨rfl, ext1 _ _⟩
  · rw [h7 k]
    have HT := Lib.hid (termAt_any s H P G ca cb cc k _ (h5.next (ext1 w (.cells #[.slice H s.hd.length ca, .slice P s.pd.length cb, .slice G s.gr.length cc, .slice L n cl, .bool false] 74))) h6 (by omega))
    clear h5 h6 h7 f
    unfold souV at HT
    generalize tmS s k = t at *
    generalize s.hd.length = nh at *
    generalize s.pd.length = np at *
    generalize s.gr.length = ng at *
    go_enter Try.func39, Try.ntmps39
    go_wp2_with (go_at_call 71; (with_reducible refine HT.out.mono ?_); rintro e w1 ⟨rfl, hb1⟩)
    go_ret2
    exact ⟨rfl, ext_trans (ext1 _ _) hb1⟩
theorem sgK_even {k : Nat} (h : k % 2 = 0) : sgK k = 1 := if_pos h
theorem sgK_odd {k : Nat} (h : ¬ k % 2 = 0) : sgK k = -1 := if_neg h
theorem parity (k : Nat) : (sgK k = 1 ∧ (k : Int) % 2 = 0 ∧ (k : Int).tmod 2 = 0) ∨ (sgK k = -1 ∧ (k : Int) % 2 = 1 ∧ (k : Int).tmod 2 = 1) := by
  by_cases h : k % 2 = 0
  · exact .inl ⟨sgK_even h, by omega, by rw [Int.tmod_eq_emod_of_nonneg (by omega)]; omega⟩
  · exact .inr ⟨sgK_odd h, by omega, by rw [Int.tmod_eq_emod_of_nonneg (by omega)]; omega⟩
set_option maxRecDepth 100000 in
set_option maxHeartbeats 4000000 in
theorem compareBy_any (H : Option Addr) (a ca : Nat) (P : Option Addr) (b cb : Nat) (G : Option Addr) (c cc : Nat) (L : Option Addr) (n cl : Nat) (fin : Bool) (f : Nat → Option Int) (H' : Option Addr) (a' ca' : Nat) (P' : Option Addr) (b' cb' : Nat) (G' : Option Addr) (c' cc' : Nat) (L' : Option Addr) (n' cl' : Nat) (fin' : Bool) (g : Nat → Option Int) (w : World) (h : ShOk w w.heap.size H a P b G c L n fin f) (h' : ShOk w w.heap.size H' a' P' b' G' c' L' n' fin' g) :
    Calls Try.prog 45 #[shV H a ca P b cb G c cc L n cl fin, shV H' a' ca' P' b' cb' G' c' cc' L' n' cl' fin', .int .i64 1000] w fun e w' => e = .returned (.tuple #[.int .i64 (cmpF f g 1000 0).1, .int .i64 (cmpF f g 1000 0).2]) ∧ Below w.heap.size w w' := by
  obtain ⟨R, hR⟩ : ∃ R, cmpF f g 1000 0 = R := ⟨_, rfl⟩
  rw [hR]
  have HR0 : Hid (cmpF f g (1000 - 0) 0 = R) := hR
  have HA : Hid (∀ (k : Nat) (W : World), Below w.heap.size w W → k ≤ 1000 → Calls Try.prog 39 #[shV H a ca P b cb G c cc L n cl fin, .int .i64 (k : Int)] W fun e w' => e = .returned (.tuple #[.int .i64 ((f k).getD 0), .bool (f k).isSome]) ∧ Below W.heap.size W w') := fun k W hb hk => shAt_any H a ca P b cb G c cc L n cl fin f k W (h.next hb) hk
  have HB : Hid (∀ (k : Nat) (W : World), Below w.heap.size w W → k ≤ 1000 → Calls Try.prog 39 #[shV H' a' ca' P' b' cb' G' c' cc' L' n' cl' fin', .int .i64 (k : Int)] W fun e w' => e = .returned (.tuple #[.int .i64 ((g k).getD 0), .bool (g k).isSome]) ∧ Below W.heap.size W w') := fun k W hb hk => shAt_any H' a' ca' P' b' cb' G' c' cc' L' n' cl' fin' g k W (h'.next hb) hk
  clear h h' hR
  unfold shV at *
  go_enter Try.func45, Try.ntmps45
  go_wp2_with fail
  go_loopw [15] (fun t wr => ∃ k : Nat, t = .int .i64 (k : Int) ∧ k ≤ 1000 ∧ Hid (cmpF f g (1000 - k) k = R) ∧ Hid (Below w.heap.size w wr) ∧ Hid (BoxV w.heap.size [.slice H a ca, .slice P b cb, .slice G c cc, .slice L n cl, .bool fin] wr) ∧ Hid (BoxV (w.heap.size + 1) [.slice H' a' ca', .slice P' b' cb', .slice G' c' cc', .slice L' n' cl', .bool fin'] wr)) (fun t _ => 1000 - (intOf t).toNat)
  case atStart =>
    refine ⟨0, rfl, by omega, HR0.out, ext_alloc (ext1 _ _) _, (BoxV.new w #[.slice H a ca, .slice P b cb, .slice G c cc, .slice L n cl, .bool fin] _).alloc _, ?_⟩
    have h := BoxV.new (w.alloc (.cells #[.slice H a ca, .slice P b cb, .slice G c cc, .slice L n cl, .bool fin] 74)) #[.slice H' a' ca', .slice P' b' cb', .slice G' c' cc', .slice L' n' cl', .bool fin'] 74
    show BoxV _ _ _
    simpa using h
  case round =>
    obtain ⟨k, rfl, hk, HR, HE, B1, B2⟩ := hrel
    clear HR0
    by_cases hlt : k < 1000
    · have x0 := B1.out.at 0 _ rfl
      have x1 := B1.out.at 1 _ rfl
      have x2 := B1.out.at 2 _ rfl
      have x3 := B1.out.at 3 _ rfl
      have x4 := B1.out.at 4 _ rfl
      have y0 := B2.out.at 0 _ rfl
      have y1 := B2.out.at 1 _ rfl
      have y2 := B2.out.at 2 _ rfl
      have y3 := B2.out.at 3 _ rfl
      have y4 := B2.out.at 4 _ rfl
      have HF := Lib.hid (fun (W : World) (hb : Below w.heap.size w W) => HA.out k W hb hk)
      have HG := Lib.hid (fun (W : World) (hb : Below w.heap.size w W) => HB.out k W hb hk)
      have HC : Hid True := trivial
      have HLT := Lib.hid hlt
      cases hf : f k with
      | none =>
        rw [hf] at HF
        cases hg : g k with
        | none =>
          rw [hg] at HG
          rw [cmp_nn hlt hf hg] at HR
          clear hf hg
          simp only [Option.getD_none, Option.isSome_none] at HF HG
          rcases parity k with ⟨p1, p2, p3⟩ | ⟨p1, p2, p3⟩
          all_goals
            clear p1
            go_wp2_with (first | (go_at_call 39; first | ((with_reducible refine (HF.out _ HE.out).mono ?_); rintro e w2 ⟨rfl, hb2⟩; have HE2 := Lib.hid (ext_trans HE.out hb2); have B1' := Lib.hid (B1.out.next hb2); have B2' := Lib.hid (B2.out.next hb2); clear x0 x1 x2 x3 x4 y0 y1 y2 y3 y4; have y0 := B2'.out.at 0 _ rfl; have y1 := B2'.out.at 1 _ rfl; have y2 := B2'.out.at 2 _ rfl; have y3 := B2'.out.at 3 _ rfl; have y4 := B2'.out.at 4 _ rfl) | ((with_reducible refine (HG.out _ HE2.out).mono ?_); rintro e w3 ⟨rfl, hb3⟩; have HE3 := Lib.hid (ext_trans HE2.out hb3); have C1 := Lib.hid (B1'.out.next hb3); have C2 := Lib.hid (B2'.out.next hb3); clear y0 y1 y2 y3 y4)) | (go_at_call 82; (with_reducible refine (HC.out _).mono ?_); rintro e w' ⟨rfl, rfl⟩))
            go_ret2
            rw [← HR.out]
            exact ⟨rfl, HE3.out⟩
        | some u =>
          rw [hg] at HG
          rw [cmp_ns hlt hf hg] at HR
          clear hf hg
          simp only [Option.getD_none, Option.isSome_none, Option.getD_some, Option.isSome_some] at HF HG
          rcases parity k with ⟨p1, p2, p3⟩ | ⟨p1, p2, p3⟩
          all_goals
            rw [p1] at HR
            clear p1
            go_wp2_with (first | (go_at_call 39; first | ((with_reducible refine (HF.out _ HE.out).mono ?_); rintro e w2 ⟨rfl, hb2⟩; have HE2 := Lib.hid (ext_trans HE.out hb2); have B1' := Lib.hid (B1.out.next hb2); have B2' := Lib.hid (B2.out.next hb2); clear x0 x1 x2 x3 x4 y0 y1 y2 y3 y4; have y0 := B2'.out.at 0 _ rfl; have y1 := B2'.out.at 1 _ rfl; have y2 := B2'.out.at 2 _ rfl; have y3 := B2'.out.at 3 _ rfl; have y4 := B2'.out.at 4 _ rfl) | ((with_reducible refine (HG.out _ HE2.out).mono ?_); rintro e w3 ⟨rfl, hb3⟩; have HE3 := Lib.hid (ext_trans HE2.out hb3); have C1 := Lib.hid (B1'.out.next hb3); have C2 := Lib.hid (B2'.out.next hb3); clear y0 y1 y2 y3 y4)) | (go_at_call 82; (with_reducible refine (HC.out _).mono ?_); rintro e w' ⟨rfl, rfl⟩))
            go_ret2
            rw [← HR.out]
            exact ⟨rfl, HE3.out⟩
      | some t =>
        rw [hf] at HF
        cases hg : g k with
        | none =>
          rw [hg] at HG
          rw [cmp_sn hlt hf hg] at HR
          clear hf hg
          simp only [Option.getD_none, Option.isSome_none, Option.getD_some, Option.isSome_some] at HF HG
          rcases parity k with ⟨p1, p2, p3⟩ | ⟨p1, p2, p3⟩
          all_goals
            rw [p1] at HR
            clear p1
            go_wp2_with (first | (go_at_call 39; first | ((with_reducible refine (HF.out _ HE.out).mono ?_); rintro e w2 ⟨rfl, hb2⟩; have HE2 := Lib.hid (ext_trans HE.out hb2); have B1' := Lib.hid (B1.out.next hb2); have B2' := Lib.hid (B2.out.next hb2); clear x0 x1 x2 x3 x4 y0 y1 y2 y3 y4; have y0 := B2'.out.at 0 _ rfl; have y1 := B2'.out.at 1 _ rfl; have y2 := B2'.out.at 2 _ rfl; have y3 := B2'.out.at 3 _ rfl; have y4 := B2'.out.at 4 _ rfl) | ((with_reducible refine (HG.out _ HE2.out).mono ?_); rintro e w3 ⟨rfl, hb3⟩; have HE3 := Lib.hid (ext_trans HE2.out hb3); have C1 := Lib.hid (B1'.out.next hb3); have C2 := Lib.hid (B2'.out.next hb3); clear y0 y1 y2 y3 y4)) | (go_at_call 82; (with_reducible refine (HC.out _).mono ?_); rintro e w' ⟨rfl, rfl⟩))
            go_ret2
            rw [← HR.out]
            exact ⟨rfl, HE3.out⟩
        | some u =>
          rw [hg] at HG
          clear HC
          have HC0 := fun W : World => compare_any t u W
          rcases Int.lt_trichotomy t u with hc | hc | hc
          · rw [show cmp3 t u = -1 by unfold cmp3; rw [if_pos hc]] at HC0
            have HC := Lib.hid HC0
            rw [cmp_lt hlt hf hg hc] at HR
            clear hf hg HC0 hc
            simp only [Option.getD_some, Option.isSome_some] at HF HG
            rcases parity k with ⟨p1, p2, p3⟩ | ⟨p1, p2, p3⟩
            all_goals
              rw [p1] at HR
              clear p1
              go_wp2_with (first | (go_at_call 39; first | ((with_reducible refine (HF.out _ HE.out).mono ?_); rintro e w2 ⟨rfl, hb2⟩; have HE2 := Lib.hid (ext_trans HE.out hb2); have B1' := Lib.hid (B1.out.next hb2); have B2' := Lib.hid (B2.out.next hb2); clear x0 x1 x2 x3 x4 y0 y1 y2 y3 y4; have y0 := B2'.out.at 0 _ rfl; have y1 := B2'.out.at 1 _ rfl; have y2 := B2'.out.at 2 _ rfl; have y3 := B2'.out.at 3 _ rfl; have y4 := B2'.out.at 4 _ rfl) | ((with_reducible refine (HG.out _ HE2.out).mono ?_); rintro e w3 ⟨rfl, hb3⟩; have HE3 := Lib.hid (ext_trans HE2.out hb3); have C1 := Lib.hid (B1'.out.next hb3); have C2 := Lib.hid (B2'.out.next hb3); clear y0 y1 y2 y3 y4)) | (go_at_call 82; (with_reducible refine (HC.out _).mono ?_); rintro e w' ⟨rfl, rfl⟩))
              go_ret2
              rw [← HR.out]
              exact ⟨rfl, HE3.out⟩
          · rw [show cmp3 t u = 0 by unfold cmp3; rw [if_neg (by omega), if_neg (by omega)]] at HC0
            have HC := Lib.hid HC0
            rw [cmp_eq hlt hf hg hc] at HR
            clear hf hg HC0 hc
            simp only [Option.getD_some, Option.isSome_some] at HF HG
            rcases parity k with ⟨p1, p2, p3⟩ | ⟨p1, p2, p3⟩
            all_goals
              clear p1
              go_wp2_with (first | (go_at_call 39; first | ((with_reducible refine (HF.out _ HE.out).mono ?_); rintro e w2 ⟨rfl, hb2⟩; have HE2 := Lib.hid (ext_trans HE.out hb2); have B1' := Lib.hid (B1.out.next hb2); have B2' := Lib.hid (B2.out.next hb2); clear x0 x1 x2 x3 x4 y0 y1 y2 y3 y4; have y0 := B2'.out.at 0 _ rfl; have y1 := B2'.out.at 1 _ rfl; have y2 := B2'.out.at 2 _ rfl; have y3 := B2'.out.at 3 _ rfl; have y4 := B2'.out.at 4 _ rfl) | ((with_reducible refine (HG.out _ HE2.out).mono ?_); rintro e w3 ⟨rfl, hb3⟩; have HE3 := Lib.hid (ext_trans HE2.out hb3); have C1 := Lib.hid (B1'.out.next hb3); have C2 := Lib.hid (B2'.out.next hb3); clear y0 y1 y2 y3 y4)) | (go_at_call 82; (with_reducible refine (HC.out _).mono ?_); rintro e w' ⟨rfl, rfl⟩))
              go_roundw
              case rel => exact ⟨k + 1, by go_num, by have := HLT.out; omega, HR.out, HE3.out, C1.out, C2.out⟩
              case measure => have := HLT.out; simp [intOf]; omega
          · rw [show cmp3 t u = 1 by unfold cmp3; rw [if_neg (by omega), if_pos (by omega)]] at HC0
            have HC := Lib.hid HC0
            rw [cmp_gt hlt hf hg hc] at HR
            clear hf hg HC0 hc
            simp only [Option.getD_some, Option.isSome_some] at HF HG
            rcases parity k with ⟨p1, p2, p3⟩ | ⟨p1, p2, p3⟩
            all_goals
              rw [p1] at HR
              clear p1
              go_wp2_with (first | (go_at_call 39; first | ((with_reducible refine (HF.out _ HE.out).mono ?_); rintro e w2 ⟨rfl, hb2⟩; have HE2 := Lib.hid (ext_trans HE.out hb2); have B1' := Lib.hid (B1.out.next hb2); have B2' := Lib.hid (B2.out.next hb2); clear x0 x1 x2 x3 x4 y0 y1 y2 y3 y4; have y0 := B2'.out.at 0 _ rfl; have y1 := B2'.out.at 1 _ rfl; have y2 := B2'.out.at 2 _ rfl; have y3 := B2'.out.at 3 _ rfl; have y4 := B2'.out.at 4 _ rfl) | ((with_reducible refine (HG.out _ HE2.out).mono ?_); rintro e w3 ⟨rfl, hb3⟩; have HE3 := Lib.hid (ext_trans HE2.out hb3); have C1 := Lib.hid (B1'.out.next hb3); have C2 := Lib.hid (B2'.out.next hb3); clear y0 y1 y2 y3 y4)) | (go_at_call 82; (with_reducible refine (HC.out _).mono ?_); rintro e w' ⟨rfl, rfl⟩))
              go_ret2
              rw [← HR.out]
              exact ⟨rfl, HE3.out⟩
    · obtain rfl : k = 1000 := by omega
      rw [cmp_end] at HR
      clear hlt hk
      go_wp2_with fail
      go_ret2
      rw [← HR.out]
      exact ⟨rfl, HE.out⟩
end Go.Proofs.Ytkimmahmbacjpaa
