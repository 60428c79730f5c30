/- Divisors: the walks. No condition but those that each theorem names. -/
import Derived.Test.YtdjnblkgeaphmaaSlices
namespace Go.Proofs.Ytdjnblkgeaphmaa
open Go.RowKit Go.Sort

theorem size64_any (A : Option Addr) (n c : Nat) (w : World) : Calls Try.prog 181 #[.slice A n c] w fun e w' => e = .returned (.int .i64 (n : Int)) ∧ w = w' := by
  go_enter Try.func181, Try.ntmps181
  go_wp2
  go_ret
  exact ⟨rfl, rfl⟩

def allIn (xs : List Int) : Bool := xs.all fun x => inR x 1 100000
def goodPair (x y : Int) : Bool := decide (y ≠ x) && decide (y % x = 0)
def pairsOk (xs : List Int) : Bool := (List.range xs.length).all fun i => i == 0 || goodPair (xs.getD (i - 1) 0) (xs.getD i 0)
/-- The code of divisors; fits: is the year in range? -/
def divCode (fits : Bool) (xs : List Int) : Int := if (fits && inR xs.length 1 8 && allIn xs) = true then (if pairsOk xs = true then 0 else 6) else 2

theorem all_take {α : Type} {p : α → Bool} {xs : List α} {k : Nat} {x : α} (h : (xs.take k).all p = true) (hx : xs[k]? = some x) (hp : p x = true) : (xs.take (k + 1)).all p = true := by
  rw [List.take_add_one, hx]; simp [List.all_append, h, hp]
theorem all_not {α : Type} {p : α → Bool} {xs : List α} {k : Nat} {x : α} (hx : xs[k]? = some x) (hp : p x = false) : xs.all p = false := by
  rw [List.all_eq_false]
  exact ⟨x, List.mem_of_getElem? hx, by simp [hp]⟩
theorem all_done {α : Type} {p : α → Bool} {xs : List α} {k : Nat} (h : (xs.take k).all p = true) (hk : xs.length ≤ k) : xs.all p = true := by
  rwa [List.take_of_length_le hk] at h
theorem allIn_mem {xs : List Int} (h : allIn xs = true) {i : Nat} {x : Int} (hx : xs[i]? = some x) : 1 ≤ x ∧ x ≤ 100000 := inR_true.1 (List.all_eq_true.1 h x (List.mem_of_getElem? hx))
theorem pairsOk_of {xs : List Int} (h : ∀ i x y, 0 < i → xs[i - 1]? = some x → xs[i]? = some y → goodPair x y = true) : pairsOk xs = true := by
  unfold pairsOk
  rw [List.all_eq_true]
  intro i hi
  have hi := List.mem_range.1 hi
  by_cases h0 : i = 0
  · simp [h0]
  · have e1 : xs[i - 1]? = some xs[i - 1] := List.getElem?_eq_getElem (by omega)
    have e2 : xs[i]? = some xs[i] := List.getElem?_eq_getElem hi
    have := h i _ _ (by omega) e1 e2
    simp [List.getD, e1, e2, this]
theorem pairsOk_not {xs : List Int} {i : Nat} {x y : Int} (hi : 0 < i) (h1 : xs[i - 1]? = some x) (h2 : xs[i]? = some y) (h : goodPair x y = false) : pairsOk xs = false := by
  unfold pairsOk
  rw [List.all_eq_false]
  refine ⟨i, List.mem_range.2 ((List.getElem?_eq_some_iff.1 h2).1), ?_⟩
  simp [List.getD, h1, h2, h]
  omega
/-- What the second loop knows of the pairs behind it. -/
def pairsTo (xs : List Int) (k : Nat) : Prop := ∀ i x y, 0 < i → i < k → xs[i - 1]? = some x → xs[i]? = some y → goodPair x y = true

set_option maxHeartbeats 1000000 in
theorem checkDivisors_any (A : Option Addr) (c : Nat) (xs : List Int) (fits : Bool) (w : World) (hx : Rd (Value.int .i64) w w.heap.size A xs) :
    Calls Try.prog 131 #[.slice A xs.length c, .bool fits] w fun e w' => e = .returned (.int .i64 (divCode fits xs)) ∧ Below w.heap.size w w' := by
  cases hf : fits
  · go_enter Try.func131, Try.ntmps131
    go_wp2
    go_ret
    exact ⟨ret_int (by simp [divCode]), Below.refl _ _⟩
  cases hn : inR xs.length 1 8
  · go_enter Try.func131, Try.ntmps131
    go_wp2_with (first | (go_at_call 181; refine (size64_any _ _ _ _).mono ?_; rintro e w' ⟨rfl, rfl⟩) | (go_at_call 110; refine (within_any _ _ _ _).mono ?_; rintro e w' ⟨rfl, rfl⟩))
    go_ret
    exact ⟨ret_int (by simp [divCode, hn]), Below.refl _ _⟩
  obtain ⟨n1, n2⟩ := inR_true.1 hn
  go_enter Try.func131, Try.ntmps131
  go_wp2_with (first | (go_at_call 181; refine (size64_any _ _ _ _).mono ?_; rintro e w' ⟨rfl, rfl⟩) | (go_at_call 110; refine (within_any _ _ _ _).mono ?_; rintro e w' ⟨rfl, rfl⟩))
  go_loop [18] (fun t => ∃ k : Nat, k ≤ xs.length ∧ t = .int .i64 k ∧ (xs.take k).all (fun x => inR x 1 100000) = true) (fun t => xs.length - (intOf t).toNat)
  case atStart => exact ⟨0, by omega, rfl, by simp⟩
  case round =>
    obtain ⟨k, hk, rfl, ha⟩ := hrel
    have HA := Lib.hid ha
    clear ha
    by_cases hlt : k < xs.length
    · obtain ⟨b, off, rfl, hb, hc⟩ := hx (by omega)
      obtain ⟨x, hxk⟩ : ∃ x, xs[k]? = some x := ⟨_, List.getElem?_eq_getElem hlt⟩
      have c1 := hc k x hxk
      have HX := Lib.hid hxk
      clear hc hxk
      have i0 : (0 : Int) ≤ (k : Int) := by omega
      have i1 : (k : Int) < (xs.length : Int) := by omega
      cases hr : inR x 1 100000
      · go_wp2_with (go_at_call 110; refine (within_any _ _ _ _).mono ?_; rintro e w' ⟨rfl, rfl⟩)
        go_ret
        exact ⟨ret_int (by simp [divCode, allIn, all_not (p := fun x => inR x 1 100000) HX.out hr]), Below.refl _ _⟩
      · go_wp2_with (go_at_call 110; refine (within_any _ _ _ _).mono ?_; rintro e w' ⟨rfl, rfl⟩)
        go_round
        case rel => exact ⟨k + 1, by omega, by go_num, all_take HA.out HX.out hr⟩
        case measure => simp [intOf]; omega
    · have hall : allIn xs = true := all_done HA.out (by omega)
      have hcode : divCode true xs = if pairsOk xs = true then 0 else 6 := by simp [divCode, hn, hall]
      have HALL := Lib.hid hall
      have HC := Lib.hid hcode
      clear hall hcode
      go_wp2
      go_loopw [7] (fun t wr => ∃ k : Nat, 1 ≤ k ∧ k ≤ xs.length ∧ t = .int .i64 k ∧ Hid (pairsTo xs k) ∧ ∃ n, wr = w.drewN n) (fun t _ => xs.length - (intOf t).toNat)
      case atStart => exact ⟨1, by omega, by omega, rfl, fun i _ _ h1 h2 => absurd h2 (by omega), 0, rfl⟩
      case round =>
        obtain ⟨k, hk1, hk, rfl, HP, nn, rfl⟩ := hrel
        by_cases hlt : k < xs.length
        · obtain ⟨b, off, rfl, hb, hc⟩ := hx (by omega)
          obtain ⟨x, hxk⟩ : ∃ x, xs[k - 1]? = some x := ⟨_, List.getElem?_eq_getElem (by omega)⟩
          obtain ⟨y, hyk⟩ : ∃ y, xs[k]? = some y := ⟨_, List.getElem?_eq_getElem hlt⟩
          have c1 := hc (k - 1) x hxk
          have c2 := hc k y hyk
          obtain ⟨x1, x2⟩ := allIn_mem HALL.out hxk
          obtain ⟨y1, y2⟩ := allIn_mem HALL.out hyk
          have HX := Lib.hid hxk
          have HY := Lib.hid hyk
          clear hc hxk hyk
          have i0 : (0 : Int) ≤ (k : Int) - 1 := by omega
          have i0' : (1 : Int) ≤ (k : Int) := by omega
          have i1 : (k : Int) < (xs.length : Int) := by omega
          have i2 : (k : Int) - 1 < (xs.length : Int) := by omega
          by_cases hxy : y = x
          · subst hxy
            go_wp2_with fail
            go_quiet (fail)
            go_wp2
            go_ret
            exact ⟨ret_int (by rw [HC.out, pairsOk_not (by omega) HX.out HY.out (by simp [goodPair])]; rfl), ⟨rfl, rfl, rfl, Nat.le_refl _, fun _ _ => rfl⟩⟩
          · have hne : (y == x) = false := by simpa using hxy
            by_cases hmod : y % x = 0
            · have hm1 : (y % x != 0) = false := by simp [hmod]
              have HM := Lib.hid hmod
              clear hmod
              go_wp2_with fail
              go_quiet (fail)
              go_wp2
              go_roundw
              case rel =>
                refine ⟨k + 1, by omega, by omega, by go_num, fun i u v h1 h2 h3 h4 => ?_, _, rfl⟩
                rcases Nat.lt_or_ge i k with h | h
                · exact HP.out i u v h1 h h3 h4
                · obtain rfl : i = k := by omega
                  obtain rfl := Option.some.inj (h3.symm.trans HX.out)
                  obtain rfl := Option.some.inj (h4.symm.trans HY.out)
                  simp [goodPair, hxy, HM.out]
              case measure => simp [intOf]; omega
            · have hm1 : (y % x != 0) = true := by simpa using hmod
              go_wp2_with fail
              go_quiet (fail)
              go_wp2
              go_ret
              exact ⟨ret_int (by rw [HC.out, pairsOk_not (by omega) HX.out HY.out (by simp [goodPair, hmod])]; rfl), ⟨rfl, rfl, rfl, Nat.le_refl _, fun _ _ => rfl⟩⟩
        · go_wp2
          go_ret
          exact ⟨ret_int (by rw [HC.out, pairsOk_of (fun i x y h1 h3 h4 => HP.out i x y h1 (by have := (List.getElem?_eq_some_iff.1 h4).1; omega) h3 h4)]; rfl), ⟨rfl, rfl, rfl, Nat.le_refl _, fun _ _ => rfl⟩⟩

set_option maxHeartbeats 1000000 in
theorem l24Divisors_any (A : Option Addr) (c : Nat) (xs : List Int) (w : World) (hx : Rd (Value.int .i64) w w.heap.size A xs) (hm : xs.length ≤ 1048576) :
    Calls Try.prog 132 #[.slice A xs.length c] w fun e w' => e = .returned (.int .i64 (divCode true xs)) ∧ Below w.heap.size w w' := by
  go_enter Try.func132, Try.ntmps132
  go_wp2_with fail
  go_loop [3] (fun t => ∃ k : Nat, k ≤ xs.length ∧ t = .int .i64 k ∧ (xs.take k).all (fun x => inR x 1 100000) = true) (fun t => xs.length - (intOf t).toNat)
  case atStart => exact ⟨0, by omega, rfl, by simp⟩
  case round =>
    obtain ⟨k, hk, rfl, ha⟩ := hrel
    have HA := Lib.hid ha
    clear ha
    by_cases hlt : k < xs.length
    · obtain ⟨b, off, rfl, hb, hc⟩ := hx (by omega)
      obtain ⟨x, hxk⟩ : ∃ x, xs[k]? = some x := ⟨_, List.getElem?_eq_getElem hlt⟩
      have c1 := hc k x hxk
      have HX := Lib.hid hxk
      clear hc hxk
      have i0 : (0 : Int) ≤ (k : Int) := by omega
      have i1 : (k : Int) < (xs.length : Int) := by omega
      cases hr : inR x 1 100000
      · go_wp2_with (go_at_call 115; refine (l00In_any _ _ _ _).mono ?_; rintro e w' ⟨rfl, rfl⟩)
        go_ret
        exact ⟨ret_int (by simp [divCode, allIn, all_not (p := fun x => inR x 1 100000) HX.out hr]), Below.refl _ _⟩
      · go_wp2_with (go_at_call 115; refine (l00In_any _ _ _ _).mono ?_; rintro e w' ⟨rfl, rfl⟩)
        go_round
        case rel => exact ⟨k + 1, by omega, by go_num, all_take HA.out HX.out hr⟩
        case measure => simp [intOf]; omega
    · have hall : allIn xs = true := all_done HA.out (by omega)
      cases hn : inR xs.length 1 8
      · go_wp2_with (go_at_call 115; refine (l00In_any _ _ _ _).mono ?_; rintro e w' ⟨rfl, rfl⟩)
        go_ret
        exact ⟨ret_int (by simp [divCode, hn]), Below.refl _ _⟩
      obtain ⟨n1, n2⟩ := inR_true.1 hn
      have hcode : divCode true xs = if pairsOk xs = true then 0 else 6 := by simp [divCode, hn, hall]
      have HALL := Lib.hid hall
      have HC := Lib.hid hcode
      clear hall hcode
      go_wp2_with (go_at_call 115; refine (l00In_any _ _ _ _).mono ?_; rintro e w' ⟨rfl, rfl⟩)
      go_loopw [4] (fun t wr => ∃ k : Nat, 1 ≤ k ∧ k ≤ xs.length ∧ t = .int .i64 k ∧ Hid (pairsTo xs k) ∧ ∃ n, wr = w.drewN n) (fun t _ => xs.length - (intOf t).toNat)
      case atStart => exact ⟨1, by omega, by omega, rfl, fun i _ _ h1 h2 => absurd h2 (by omega), 0, rfl⟩
      case round =>
        obtain ⟨k, hk1, hk, rfl, HP, nn, rfl⟩ := hrel
        by_cases hlt : k < xs.length
        · obtain ⟨b, off, rfl, hb, hc⟩ := hx (by omega)
          obtain ⟨x, hxk⟩ : ∃ x, xs[k - 1]? = some x := ⟨_, List.getElem?_eq_getElem (by omega)⟩
          obtain ⟨y, hyk⟩ : ∃ y, xs[k]? = some y := ⟨_, List.getElem?_eq_getElem hlt⟩
          have c1 := hc (k - 1) x hxk
          have c2 := hc k y hyk
          obtain ⟨x1, x2⟩ := allIn_mem HALL.out hxk
          obtain ⟨y1, y2⟩ := allIn_mem HALL.out hyk
          have HX := Lib.hid hxk
          have HY := Lib.hid hyk
          clear hc hxk hyk
          have i0 : (0 : Int) ≤ (k : Int) - 1 := by omega
          have i0' : (1 : Int) ≤ (k : Int) := by omega
          have i1 : (k : Int) < (xs.length : Int) := by omega
          have i2 : (k : Int) - 1 < (xs.length : Int) := by omega
          by_cases hxy : y = x
          · subst hxy
            have hm0 : y % y = 0 := Int.emod_self
            have hm1 : (y % y != 0) = false := by simp
            clear hm0
            go_wp2_with fail
            go_quiet (fail)
            go_wp2
            go_ret
            exact ⟨ret_int (by rw [HC.out, pairsOk_not (by omega) HX.out HY.out (by simp [goodPair])]; rfl), ⟨rfl, rfl, rfl, Nat.le_refl _, fun _ _ => rfl⟩⟩
          · have hne : (y == x) = false := by simpa using hxy
            by_cases hmod : y % x = 0
            · have hm1 : (y % x != 0) = false := by simp [hmod]
              have HM := Lib.hid hmod
              clear hmod
              go_wp2_with fail
              go_quiet (fail)
              go_wp2
              go_roundw
              case rel =>
                refine ⟨k + 1, by omega, by omega, by go_num, fun i u v h1 h2 h3 h4 => ?_, _, rfl⟩
                rcases Nat.lt_or_ge i k with h | h
                · exact HP.out i u v h1 h h3 h4
                · obtain rfl : i = k := by omega
                  obtain rfl := Option.some.inj (h3.symm.trans HX.out)
                  obtain rfl := Option.some.inj (h4.symm.trans HY.out)
                  simp [goodPair, hxy, HM.out]
              case measure => simp [intOf]; omega
            · have hm1 : (y % x != 0) = true := by simpa using hmod
              go_wp2_with fail
              go_quiet (fail)
              go_wp2
              go_ret
              exact ⟨ret_int (by rw [HC.out, pairsOk_not (by omega) HX.out HY.out (by simp [goodPair, hmod])]; rfl), ⟨rfl, rfl, rfl, Nat.le_refl _, fun _ _ => rfl⟩⟩
        · go_wp2
          go_ret
          exact ⟨ret_int (by rw [HC.out, pairsOk_of (fun i x y h1 h3 h4 => HP.out i x y h1 (by have := (List.getElem?_eq_some_iff.1 h4).1; omega) h3 h4)]; rfl), ⟨rfl, rfl, rfl, Nat.le_refl _, fun _ _ => rfl⟩⟩

/-- How many divisors a year has; is it a leap year? -/
def divCnt (y : Int) (xs : List Int) : Nat := (xs.filter fun d => decide (y % d = 0)).length
def divOdd (y : Int) (xs : List Int) : Bool := decide (divCnt y xs % 2 = 1)
theorem divCnt_le (y : Int) (xs : List Int) : divCnt y xs ≤ xs.length := List.length_filter_le _ _
theorem divCnt_snoc {y : Int} {xs : List Int} {k : Nat} {d : Int} (h : xs[k]? = some d) : divCnt y (xs.take (k + 1)) = divCnt y (xs.take k) + (if y % d = 0 then 1 else 0) := by
  unfold divCnt
  rw [List.take_add_one, h, List.filter_append]
  by_cases hd : y % d = 0 <;> simp [hd]
theorem divOdd_yes {y : Int} {xs : List Int} {k : Nat} {d : Int} (h : xs[k]? = some d) (hd : y % d = 0) : divOdd y (xs.take (k + 1)) = !divOdd y (xs.take k) := by
  unfold divOdd
  rw [divCnt_snoc h, if_pos hd]
  have : divCnt y (xs.take k) % 2 < 2 := Nat.mod_lt _ (by omega)
  by_cases h1 : divCnt y (xs.take k) % 2 = 1
  · rw [decide_eq_true h1, decide_eq_false (by omega)]; rfl
  · rw [decide_eq_false h1, decide_eq_true (by omega)]; rfl
theorem divOdd_no {y : Int} {xs : List Int} {k : Nat} {d : Int} (h : xs[k]? = some d) (hd : ¬ y % d = 0) : divOdd y (xs.take (k + 1)) = divOdd y (xs.take k) := by
  unfold divOdd; rw [divCnt_snoc h, if_neg hd]; rfl
theorem divCode_zero {f : Bool} {xs : List Int} (h : divCode f xs = 0) : f = true ∧ 1 ≤ xs.length ∧ xs.length ≤ 8 ∧ allIn xs = true := by
  unfold divCode at h
  split at h
  · rename_i h1
    rw [Bool.and_eq_true, Bool.and_eq_true] at h1
    have := inR_true.1 h1.1.2
    exact ⟨h1.1.1, by omega, by omega, h1.2⟩
  · cases h

set_option maxHeartbeats 1000000 in
theorem iDivisorRule_any (A : Option Addr) (c : Nat) (xs : List Int) (y : Int) (w : World) (hx : Rd (Value.int .i64) w w.heap.size A xs) :
    Calls Try.prog 39 #[.slice A xs.length c, .int .i64 y] w fun e w' => e = .returned (.tuple #[.bool (decide (divCode (inR y 0 100000) xs = 0) && divOdd y xs), .int .i64 (divCode (inR y 0 100000) xs)]) ∧ Below w.heap.size w w' := by
  by_cases h0 : divCode (inR y 0 100000) xs = 0
  · obtain ⟨hy, n1, n2, hall⟩ := divCode_zero h0
    obtain ⟨y0, y1⟩ := inR_true.1 hy
    rw [hy] at h0
    have H0 := Lib.hid h0
    have HALL := Lib.hid hall
    clear h0 hall
    go_enter Try.func39, Try.ntmps39
    go_wp2_with (first | (go_at_call 110; refine (within_any _ _ _ _).mono ?_; rintro e w' ⟨rfl, rfl⟩) | (go_at_call 131; refine (checkDivisors_any _ _ xs _ _ hx).mono ?_; rw [H0.out]; rintro e w1 ⟨rfl, hb1⟩))
    have hx1 := (hx.below hb1).more hb1.size
    go_loop [19, 7] (fun t o => ∃ k : Nat, k ≤ xs.length ∧ t = .int .i64 k ∧ o = .bool (divOdd y (xs.take k))) (fun t _ => xs.length - (intOf t).toNat)
    case atStart => exact ⟨0, by omega, rfl, rfl⟩
    case round =>
      obtain ⟨k, hk, rfl, rfl⟩ := hrel
      by_cases hlt : k < xs.length
      · obtain ⟨b, off, rfl, hb, hc⟩ := hx1 (by omega)
        obtain ⟨x, hxk⟩ : ∃ x, xs[k]? = some x := ⟨_, List.getElem?_eq_getElem hlt⟩
        have c1 := hc k x hxk
        obtain ⟨x1, x2⟩ := allIn_mem HALL.out hxk
        have HX := Lib.hid hxk
        clear hc hxk
        have i0 : (0 : Int) ≤ (k : Int) := by omega
        have i1 : (k : Int) < (xs.length : Int) := by omega
        by_cases hd : y % x = 0
        · have hd1 : (y % x == 0) = true := by simpa using hd
          have HD := Lib.hid hd
          clear hd
          go_wp2
          go_round
          case rel => exact ⟨k + 1, by omega, by go_num, val_bool (divOdd_yes HX.out HD.out).symm⟩
          case measure => simp [intOf]; omega
        · have hd1 : (y % x == 0) = false := by simpa using hd
          go_wp2
          go_round
          case rel => exact ⟨k + 1, by omega, by go_num, val_bool (divOdd_no HX.out hd).symm⟩
          case measure => simp [intOf]; omega
      · go_wp2
        go_ret2
        refine ⟨?_, hb1⟩
        rw [List.take_of_length_le (by omega), H0.out]
        simp
  · have h1 : (divCode (inR y 0 100000) xs != 0) = true := by simpa using h0
    have h2 : (divCode (inR y 0 100000) xs == 0) = false := by simpa using h0
    go_enter Try.func39, Try.ntmps39
    go_wp2_with (first | (go_at_call 110; refine (within_any _ _ _ _).mono ?_; rintro e w' ⟨rfl, rfl⟩) | (go_at_call 131; refine (checkDivisors_any _ _ xs _ _ hx).mono ?_; rintro e w1 ⟨rfl, hb1⟩))
    go_ret2
    exact ⟨by simp [h0], hb1⟩

theorem divCode_not {xs : List Int} : divCode false xs = 2 := by simp [divCode]
set_option maxHeartbeats 1000000 in
theorem sDivisorRule_any (A : Option Addr) (c : Nat) (xs : List Int) (y : Int) (w : World) (hx : Rd (Value.int .i64) w w.heap.size A xs) (hm : xs.length ≤ 1048576) :
    Calls Try.prog 40 #[.slice A xs.length c, .int .i64 y] w fun e w' => e = .returned (.tuple #[.bool (decide (divCode (inR y 0 100000) xs = 0) && divOdd y xs), .int .i64 (divCode (inR y 0 100000) xs)]) ∧ Below w.heap.size w w' := by
  cases hy : inR y 0 100000
  · have e := divCode_not (xs := xs)
    rw [e]
    clear e
    go_enter Try.func40, Try.ntmps40
    go_wp2_with (first | (go_at_call 115; refine (l00In_any _ _ _ _).mono ?_; rintro e w' ⟨rfl, rfl⟩) | (go_at_call 132; refine (l24Divisors_any _ _ xs _ hx hm).mono ?_; rintro e w1 ⟨rfl, hb1⟩))
    go_ret2
    exact ⟨rfl, hb1⟩
  obtain ⟨y0, y1⟩ := inR_true.1 hy
  by_cases h0 : divCode true xs = 0
  · obtain ⟨_, n1, n2, hall⟩ := divCode_zero h0
    have H0 := Lib.hid h0
    have HALL := Lib.hid hall
    clear h0 hall
    go_enter Try.func40, Try.ntmps40
    go_wp2_with (first | (go_at_call 115; refine (l00In_any _ _ _ _).mono ?_; rintro e w' ⟨rfl, rfl⟩) | (go_at_call 132; refine (l24Divisors_any _ _ xs _ hx hm).mono ?_; rw [H0.out]; rintro e w1 ⟨rfl, hb1⟩))
    have hx1 := (hx.below hb1).more hb1.size
    go_loop [8, 7] (fun t o => ∃ k : Nat, k ≤ xs.length ∧ t = .int .i64 k ∧ o = .int .i64 (divCnt y (xs.take k))) (fun t _ => xs.length - (intOf t).toNat)
    case atStart => exact ⟨0, by omega, rfl, rfl⟩
    case round =>
      obtain ⟨k, hk, rfl, rfl⟩ := hrel
      have hcl := divCnt_le y (xs.take k)
      have hcl' : (xs.take k).length ≤ 8 := by rw [List.length_take]; omega
      by_cases hlt : k < xs.length
      · obtain ⟨b, off, rfl, hb, hc⟩ := hx1 (by omega)
        obtain ⟨x, hxk⟩ : ∃ x, xs[k]? = some x := ⟨_, List.getElem?_eq_getElem hlt⟩
        have c1 := hc k x hxk
        obtain ⟨x1, x2⟩ := allIn_mem HALL.out hxk
        have HX := Lib.hid hxk
        clear hc hxk
        have i0 : (0 : Int) ≤ (k : Int) := by omega
        have i1 : (k : Int) < (xs.length : Int) := by omega
        by_cases hd : y % x = 0
        · have hd1 : (y % x == 0) = true := by simpa using hd
          have HD := Lib.hid hd
          clear hd
          go_wp2
          go_round
          case rel => exact ⟨k + 1, by omega, by go_num, val_int (by rw [divCnt_snoc HX.out, if_pos HD.out]; omega)⟩
          case measure => simp [intOf]; omega
        · have hd1 : (y % x == 0) = false := by simpa using hd
          go_wp2
          go_round
          case rel => exact ⟨k + 1, by omega, by go_num, val_int (by rw [divCnt_snoc HX.out, if_neg hd]; omega)⟩
          case measure => simp [intOf]; omega
      · have HF : Hid ((divCnt y (xs.take k) : Int) % 2 = 1 ↔ divCnt y xs % 2 = 1) := by
          rw [List.take_of_length_le (by omega)]
          show _ ↔ _
          omega
        go_wp2
        go_ret2
        refine ⟨?_, hb1⟩
        rw [H0.out]
        have := HF.out
        simp only [divOdd]
        refine congrArg (fun b => Ending.returned (.tuple #[.bool b, .int .i64 0])) ?_
        rw [Bool.eq_iff_iff]
        simpa using this
  · have h1 : (divCode true xs != 0) = true := by simpa using h0
    have h2 : (divCode true xs == 0) = false := by simpa using h0
    go_enter Try.func40, Try.ntmps40
    go_wp2_with (first | (go_at_call 115; refine (l00In_any _ _ _ _).mono ?_; rintro e w' ⟨rfl, rfl⟩) | (go_at_call 132; refine (l24Divisors_any _ _ xs _ hx hm).mono ?_; rintro e w1 ⟨rfl, hb1⟩))
    go_ret2
    exact ⟨by simp [h0], hb1⟩
end Go.Proofs.Ytdjnblkgeaphmaa
