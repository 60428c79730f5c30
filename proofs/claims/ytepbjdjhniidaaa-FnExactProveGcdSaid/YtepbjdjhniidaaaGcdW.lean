/- ProveGcd: both walks. No condition but those that each theorem names. -/
import Derived.Test.YtepbjdjhniidaaaProveW
namespace Go.Proofs.Ytepbjdjhniidaaa
open Go.RowKit Go.Sort

/-- Euclid's algorithm with its multipliers, as the texts go it. -/
def eucF : Nat → Nat → Nat → Int → Int → Int → Int → Nat × Int × Int
  | 0, r, _, x, y, _, _ => (r, x, y)
  | f + 1, r, s, x, y, u, v => if s = 0 then (r, x, y) else eucF f s (r % s) u v (wrap64 (x - wrap64 ((r : Int) / (s : Int) * u))) (wrap64 (y - wrap64 ((r : Int) / (s : Int) * v)))
theorem eucF_zero (f r : Nat) (x y u v : Int) : eucF f r 0 x y u v = (r, x, y) := by cases f <;> simp [eucF]

def eucS (a b : Int) : Nat × Int × Int := eucF b.natAbs a.natAbs b.natAbs 1 0 0 1
def eucX (a b : Int) : Int := if a < 0 then wrap64 (-(eucS a b).2.1) else (eucS a b).2.1
def eucY (a b : Int) : Int := if b < 0 then wrap64 (-(eucS a b).2.2) else (eucS a b).2.2

def pgC (a b : Int) : Int := if (modB a && modB b) = true then (if a = 0 ∧ b = 0 then 6 else 0) else 2
def pgK (a b : Int) : Int := if pgC a b = 0 then 1 else 0
def pgX (a b : Int) : List Int := if pgC a b = 0 then [a, b, (eucS a b).1, eucX a b, eucY a b] else []

/-- What holds at a round's head. -/
def EU (a b : Int) (r x y s u v : Value) : Prop :=
  ∃ f r' s' : Nat, ∃ x' y' u' v' : Int, s' ≤ f ∧ r' ≤ 1000000000 ∧ s' ≤ 1000000000 ∧ eucF f r' s' x' y' u' v' = eucS a b ∧ r = .int .i64 r' ∧ s = .int .i64 s' ∧ x = .int .i64 x' ∧ y = .int .i64 y' ∧ u = .int .i64 u' ∧ v = .int .i64 v'

set_option maxHeartbeats 1000000 in
theorem l26Euclid_any (a b : Int) (w : World) (a1 : -1000000000 ≤ a) (a2 : a ≤ 1000000000) (b1 : -1000000000 ≤ b) (b2 : b ≤ 1000000000) :
    Calls Try.prog 71 #[.int .i64 a, .int .i64 b] w fun e w' => e = .returned (.tuple #[.int .i64 (eucS a b).1, .int .i64 (eucX a b), .int .i64 (eucY a b)]) ∧ w = w' := by
  go_enter Try.func71, Try.ntmps71
  go_wp2_with (go_at_call 60; refine (l02Size_any _ _ (by omega) (by omega)).mono ?_; rintro e w' ⟨rfl, rfl⟩)
  go_loop [7, 8, 9, 10, 11, 12] (fun r x y s u v => EU a b r x y s u v) (fun _ _ _ s _ _ => (intOf s).toNat)
  case atStart => exact ⟨b.natAbs, a.natAbs, b.natAbs, 1, 0, 0, 1, by omega, by omega, by omega, rfl, rfl, rfl, rfl, rfl, rfl, rfl⟩
  case round =>
    obtain ⟨f, r, s, x, y, u, v, hf, hr, hs, he, rfl, rfl, rfl, rfl, rfl, rfl⟩ := hrel
    by_cases h0 : 0 < s
    · obtain ⟨g, rfl⟩ : ∃ g, f = g + 1 := ⟨f - 1, by omega⟩
      rw [eucF, if_neg (by omega)] at he
      have HE := Lib.hid he
      clear he
      have e1 : ((s : Int) != 0) = true := by rw [bne_iff_ne]; omega
      have e2 : ((s : Int) == 0) = false := by simp; omega
      have hm : r % s < s := Nat.mod_lt _ h0
      have q1 : 0 ≤ (r : Int) / (s : Int) := Int.ediv_nonneg (by omega) (by omega)
      have q2 : (r : Int) / (s : Int) ≤ r := Int.ediv_le_self _ (by omega)
      have q3 : (r : Int) - (r : Int) / (s : Int) * (s : Int) = ((r % s : Nat) : Int) := by
        have := Int.mul_ediv_add_emod (r : Int) (s : Int)
        rw [Int.mul_comm] at this
        rw [Int.natCast_emod]; omega
      have q4 : 0 ≤ (r : Int) / (s : Int) * (s : Int) ∧ (r : Int) / (s : Int) * (s : Int) ≤ r := by
        rw [Int.natCast_emod] at q3
        have := Int.emod_nonneg (r : Int) (b := (s : Int)) (by omega)
        have := Int.mul_nonneg q1 (show 0 ≤ (s : Int) by omega)
        omega
      obtain ⟨q4, q5⟩ := q4
      generalize hq : (r : Int) / (s : Int) = q at *
      generalize hqs : q * (s : Int) = qs at *
      have Q3 := Lib.hid q3
      clear q3
      go_wp2
      go_round
      case rel => exact ⟨g, s, r % s, u, v, _, _, by omega, hs, by omega, HE.out, rfl, val_int Q3.out, rfl, rfl, rfl, rfl⟩
      case measure =>
        have h1 := Q3.out
        simp only [intOf]
        omega
    · obtain rfl : s = 0 := by omega
      rw [eucF_zero] at he
      have f1 : eucX a b = if a < 0 then wrap64 (-x) else x := by rw [eucX, ← he]
      have f2 : eucY a b = if b < 0 then wrap64 (-y) else y := by rw [eucY, ← he]
      have f3 : (eucS a b).1 = r := by rw [← he]
      have F1 := Lib.hid f1
      have F2 := Lib.hid f2
      have F3 := Lib.hid f3
      clear f1 f2 f3 he
      have e1 : (((0 : Nat) : Int) != 0) = false := by simp
      by_cases ha : a < 0
      all_goals
        by_cases hb : b < 0
        all_goals
          go_wp2
          go_ret3
          refine ⟨?_, rfl⟩
          rw [F1.out, F2.out, F3.out]
          first
            | rw [if_pos ha, if_pos hb]; rfl
            | rw [if_pos ha, if_neg (by omega)]; rfl
            | rw [if_neg (by omega), if_pos hb]; rfl
            | rw [if_neg (by omega), if_neg (by omega)]; rfl

theorem iProveGcd_bad (a b : Int) (w : World) (h : ¬ pgC a b = 0) :
    Calls Try.prog 24 #[.int .i64 a, .int .i64 b] w (RetCertC w (pgK a b) (pgX a b) (pgC a b)) := by
  have e2 : pgK a b = 0 := by simp [pgK, h]
  have e3 : pgX a b = [] := by simp [pgX, h]
  rw [e2, e3]
  clear e2 e3
  cases ha : modB a
  · have e1 : pgC a b = 2 := by simp [pgC, ha]
    rw [e1]
    clear e1 h
    go_enter Try.func24, Try.ntmps24
    go_wp2_with (go_at_call 61; refine (isModerate_any _ _).mono ?_; rintro e w' ⟨rfl, rfl⟩)
    exact bodyPost_ret (v := .tuple #[certV 0 none 0 0, .int .i64 2]) (by simp [results, Try.results24, go_sem]; done) rfl ⟨none, 0, rfl, fun h => absurd h (by simp), ext_alloc (Below.refl _ _) _⟩
  · cases hb : modB b
    · have e1 : pgC a b = 2 := by simp [pgC, hb]
      rw [e1]
      clear e1 h
      go_enter Try.func24, Try.ntmps24
      go_wp2_with (go_at_call 61; refine (isModerate_any _ _).mono ?_; rintro e w' ⟨rfl, rfl⟩)
      exact bodyPost_ret (v := .tuple #[certV 0 none 0 0, .int .i64 2]) (by simp [results, Try.results24, go_sem]; done) rfl ⟨none, 0, rfl, fun h => absurd h (by simp), ext_alloc (Below.refl _ _) _⟩
    · have h0 : a = 0 ∧ b = 0 := by
        rcases Classical.em (a = 0 ∧ b = 0) with h1 | h1
        · exact h1
        · exact absurd (by simp [pgC, ha, hb, h1]) h
      obtain ⟨rfl, rfl⟩ := h0
      have e1 : pgC 0 0 = 6 := by simp [pgC, ha]
      rw [e1]
      clear e1 h hb
      go_enter Try.func24, Try.ntmps24
      go_wp2_with (go_at_call 61; refine (isModerate_any _ _).mono ?_; rintro e w' ⟨rfl, rfl⟩)
      exact bodyPost_ret (v := .tuple #[certV 0 none 0 0, .int .i64 6]) (by simp [results, Try.results24, go_sem]; done) rfl ⟨none, 0, rfl, fun h => absurd h (by simp), ext_alloc (Below.refl _ _) _⟩
theorem sProveGcd_bad (a b : Int) (w : World) (h : ¬ pgC a b = 0) :
    Calls Try.prog 23 #[.int .i64 a, .int .i64 b] w (RetCertC w (pgK a b) (pgX a b) (pgC a b)) := by
  have e2 : pgK a b = 0 := by simp [pgK, h]
  have e3 : pgX a b = [] := by simp [pgX, h]
  rw [e2, e3]
  clear e2 e3
  cases ha : modB a
  · have e1 : pgC a b = 2 := by simp [pgC, ha]
    rw [e1]
    clear e1 h
    go_enter Try.func23, Try.ntmps23
    go_wp2_with (go_at_call 58; refine (l26Num_any _ _).mono ?_; rintro e w' ⟨rfl, rfl⟩)
    exact bodyPost_ret (v := .tuple #[certV 0 none 0 0, .int .i64 2]) (by simp [results, Try.results23, go_sem]; done) rfl ⟨none, 0, rfl, fun h => absurd h (by simp), ext_alloc (Below.refl _ _) _⟩
  · cases hb : modB b
    · have e1 : pgC a b = 2 := by simp [pgC, hb]
      rw [e1]
      clear e1 h
      go_enter Try.func23, Try.ntmps23
      go_wp2_with (go_at_call 58; refine (l26Num_any _ _).mono ?_; rintro e w' ⟨rfl, rfl⟩)
      exact bodyPost_ret (v := .tuple #[certV 0 none 0 0, .int .i64 2]) (by simp [results, Try.results23, go_sem]; done) rfl ⟨none, 0, rfl, fun h => absurd h (by simp), ext_alloc (Below.refl _ _) _⟩
    · have h0 : a = 0 ∧ b = 0 := by
        rcases Classical.em (a = 0 ∧ b = 0) with h1 | h1
        · exact h1
        · exact absurd (by simp [pgC, ha, hb, h1]) h
      obtain ⟨rfl, rfl⟩ := h0
      have e1 : pgC 0 0 = 6 := by simp [pgC, ha]
      rw [e1]
      clear e1 h hb
      go_enter Try.func23, Try.ntmps23
      go_wp2_with (go_at_call 58; refine (l26Num_any _ _).mono ?_; rintro e w' ⟨rfl, rfl⟩)
      exact bodyPost_ret (v := .tuple #[certV 0 none 0 0, .int .i64 6]) (by simp [results, Try.results23, go_sem]; done) rfl ⟨none, 0, rfl, fun h => absurd h (by simp), ext_alloc (Below.refl _ _) _⟩

theorem pgC_zero {a b : Int} (h : pgC a b = 0) : modB a = true ∧ modB b = true ∧ ¬ (a = 0 ∧ b = 0) := by
  unfold pgC at h
  split at h
  · rename_i h1
    split at h
    · cases h
    · rename_i h2
      rw [Bool.and_eq_true] at h1
      exact ⟨h1.1, h1.2, h2⟩
  · cases h

set_option maxHeartbeats 1000000 in
theorem sProveGcd_any (a b : Int) (w : World) :
    Calls Try.prog 23 #[.int .i64 a, .int .i64 b] w (RetCertC w (pgK a b) (pgX a b) (pgC a b)) := by
  by_cases h : pgC a b = 0
  · obtain ⟨ha, hb, h0⟩ := pgC_zero h
    obtain ⟨a1, a2⟩ := modB_true.1 ha
    obtain ⟨b1, b2⟩ := modB_true.1 hb
    have e2 : pgK a b = 1 := by simp [pgK, h]
    have e3 : pgX a b = [a, b, (eucS a b).1, eucX a b, eucY a b] := by simp [pgX, h]
    rw [h, e2, e3]
    have HE := Lib.hid (l26Euclid_any a b · a1 a2 b1 b2)
    generalize ((eucS a b).1 : Int) = g at *
    generalize eucX a b = x at *
    generalize eucY a b = y at *
    clear h e2 e3
    by_cases ha0 : a = 0
    · have hb0 : (b == 0) = false := by
        rw [beq_eq_false_iff_ne]
        exact fun hh => h0 ⟨ha0, hh⟩
      subst ha0
      clear h0
      go_enter Try.func23, Try.ntmps23
      go_wp2_with (go_at_call 58; refine (l26Num_any _ _).mono ?_; rintro e w' ⟨rfl, rfl⟩)
      refine (HE.out _).mono ?_
      rintro e w' ⟨rfl, rfl⟩
      go_wp2
      exact bodyPost_ret (v := .tuple #[certV 1 (some ⟨w.heap.size + 1, 0, none⟩) 5 5, .int .i64 0]) (by simp [results, Try.results23, go_sem]; done) rfl ⟨_, _, rfl, (Wr.lit' _ (xs := [0, b, g, x, y]) (by simp) rfl).more (by omega), ext_alloc (ext_alloc (Below.refl _ _) _) _⟩
    · have ha1 : (a == 0) = false := by simpa using ha0
      clear h0
      go_enter Try.func23, Try.ntmps23
      go_wp2_with (go_at_call 58; refine (l26Num_any _ _).mono ?_; rintro e w' ⟨rfl, rfl⟩)
      refine (HE.out _).mono ?_
      rintro e w' ⟨rfl, rfl⟩
      go_wp2
      exact bodyPost_ret (v := .tuple #[certV 1 (some ⟨w.heap.size + 1, 0, none⟩) 5 5, .int .i64 0]) (by simp [results, Try.results23, go_sem]; done) rfl ⟨_, _, rfl, (Wr.lit' _ (xs := [a, b, g, x, y]) (by simp) rfl).more (by omega), ext_alloc (ext_alloc (Below.refl _ _) _) _⟩
  · exact sProveGcd_bad a b w h

set_option maxHeartbeats 1000000 in
theorem iProveGcd_good (a b : Int) (w : World) (ha : modB a = true) (hb : modB b = true) (hh : (a == 0) = false ∨ ((a == 0) = true ∧ (b == 0) = false)) :
    Calls Try.prog 24 #[.int .i64 a, .int .i64 b] w (RetCertC w 1 [a, b, (eucS a b).1, eucX a b, eucY a b] 0) := by
  obtain ⟨a1, a2⟩ := modB_true.1 ha
  obtain ⟨b1, b2⟩ := modB_true.1 hb
  rcases hh with hh | ⟨hh, hh'⟩
  all_goals
    go_enter Try.func24, Try.ntmps24
    go_wp2_with (first | (go_at_call 61; refine (isModerate_any _ _).mono ?_; rintro e w' ⟨rfl, rfl⟩) | (go_at_call 72; refine (abs_any _ _ (by omega) (by omega)).mono ?_; rintro e w' ⟨rfl, rfl⟩))
    go_loop [6, 7, 8, 9, 10, 11] (fun r x y s u v => EU a b r x y s u v) (fun _ _ _ s _ _ => (intOf s).toNat)
    case atStart => exact ⟨b.natAbs, a.natAbs, b.natAbs, 1, 0, 0, 1, by omega, by omega, by omega, rfl, rfl, rfl, rfl, rfl, rfl, rfl⟩
    case round =>
      obtain ⟨f, r, s, x, y, u, v, hf, hr, hs, he, rfl, rfl, rfl, rfl, rfl, rfl⟩ := hrel
      by_cases h0 : 0 < s
      · obtain ⟨g, rfl⟩ : ∃ g, f = g + 1 := ⟨f - 1, by omega⟩
        rw [eucF, if_neg (by omega)] at he
        have HE := Lib.hid he
        clear he
        have e1 : ((s : Int) != 0) = true := by rw [bne_iff_ne]; omega
        have e2 : ((s : Int) == 0) = false := by simp; omega
        have hm : r % s < s := Nat.mod_lt _ h0
        have q1 : 0 ≤ (r : Int) / (s : Int) := Int.ediv_nonneg (by omega) (by omega)
        have q2 : (r : Int) / (s : Int) ≤ r := Int.ediv_le_self _ (by omega)
        have q3 : (r : Int) - (r : Int) / (s : Int) * (s : Int) = ((r % s : Nat) : Int) := by
          have := Int.mul_ediv_add_emod (r : Int) (s : Int)
          rw [Int.mul_comm] at this
          rw [Int.natCast_emod]; omega
        have q4 : 0 ≤ (r : Int) / (s : Int) * (s : Int) ∧ (r : Int) / (s : Int) * (s : Int) ≤ r := by
          rw [Int.natCast_emod] at q3
          have := Int.emod_nonneg (r : Int) (b := (s : Int)) (by omega)
          have := Int.mul_nonneg q1 (show 0 ≤ (s : Int) by omega)
          omega
        obtain ⟨q4, q5⟩ := q4
        generalize hq : (r : Int) / (s : Int) = q at *
        generalize hqs : q * (s : Int) = qs at *
        have Q3 := Lib.hid q3
        clear q3
        go_wp2
        go_round
        case rel => exact ⟨g, s, r % s, u, v, _, _, by omega, hs, by omega, HE.out, rfl, val_int Q3.out, rfl, rfl, rfl, rfl⟩
        case measure =>
          have h1 := Q3.out
          simp only [intOf]
          omega
      · obtain rfl : s = 0 := by omega
        rw [eucF_zero] at he
        have f1 : eucX a b = if a < 0 then wrap64 (-x) else x := by rw [eucX, ← he]
        have f2 : eucY a b = if b < 0 then wrap64 (-y) else y := by rw [eucY, ← he]
        have f3 : (eucS a b).1 = r := by rw [← he]
        have F1 := Lib.hid f1
        have F2 := Lib.hid f2
        have F3 := Lib.hid f3
        clear f1 f2 f3 he
        have e1 : (((0 : Nat) : Int) != 0) = false := by simp
        by_cases ha : a < 0
        all_goals
          by_cases hb : b < 0
          all_goals
            have G : Hid (∀ x' y' : Int, (if a < 0 then wrap64 (-x) else x) = x' → (if b < 0 then wrap64 (-y) else y) = y' → [a, b, ((eucS a b).1 : Int), eucX a b, eucY a b] = [a, b, (r : Int), x', y']) := by
              intro x' y' h1 h2
              rw [F1.out, F2.out, F3.out, h1, h2]
            go_wp2
            first
              | exact bodyPost_ret (v := .tuple #[certV 1 (some ⟨w.heap.size + 1, 0, none⟩) 5 5, .int .i64 0]) (by simp [results, Try.results24, go_sem]; done) rfl ⟨_, _, rfl, (Wr.lit' _ (xs := [a, b, (eucS a b).1, eucX a b, eucY a b]) (by simp) (by rw [G.out (wrap64 (-x)) (wrap64 (-y)) (if_pos ha) (if_pos hb)]; rfl)).more (by omega), ext_alloc (ext_alloc (Below.refl _ _) _) _⟩
              | exact bodyPost_ret (v := .tuple #[certV 1 (some ⟨w.heap.size + 1, 0, none⟩) 5 5, .int .i64 0]) (by simp [results, Try.results24, go_sem]; done) rfl ⟨_, _, rfl, (Wr.lit' _ (xs := [a, b, (eucS a b).1, eucX a b, eucY a b]) (by simp) (by rw [G.out (wrap64 (-x)) y (if_pos ha) (if_neg (by omega))]; rfl)).more (by omega), ext_alloc (ext_alloc (Below.refl _ _) _) _⟩
              | exact bodyPost_ret (v := .tuple #[certV 1 (some ⟨w.heap.size + 1, 0, none⟩) 5 5, .int .i64 0]) (by simp [results, Try.results24, go_sem]; done) rfl ⟨_, _, rfl, (Wr.lit' _ (xs := [a, b, (eucS a b).1, eucX a b, eucY a b]) (by simp) (by rw [G.out x (wrap64 (-y)) (if_neg (by omega)) (if_pos hb)]; rfl)).more (by omega), ext_alloc (ext_alloc (Below.refl _ _) _) _⟩
              | exact bodyPost_ret (v := .tuple #[certV 1 (some ⟨w.heap.size + 1, 0, none⟩) 5 5, .int .i64 0]) (by simp [results, Try.results24, go_sem]; done) rfl ⟨_, _, rfl, (Wr.lit' _ (xs := [a, b, (eucS a b).1, eucX a b, eucY a b]) (by simp) (by rw [G.out x y (if_neg (by omega)) (if_neg (by omega))]; rfl)).more (by omega), ext_alloc (ext_alloc (Below.refl _ _) _) _⟩
theorem iProveGcd_any (a b : Int) (w : World) :
    Calls Try.prog 24 #[.int .i64 a, .int .i64 b] w (RetCertC w (pgK a b) (pgX a b) (pgC a b)) := by
  by_cases h : pgC a b = 0
  · obtain ⟨ha, hb, h0⟩ := pgC_zero h
    have e2 : pgK a b = 1 := by simp [pgK, h]
    have e3 : pgX a b = [a, b, (eucS a b).1, eucX a b, eucY a b] := by simp [pgX, h]
    rw [h, e2, e3]
    refine iProveGcd_good a b w ha hb ?_
    by_cases ha0 : a = 0
    · refine .inr ⟨by simpa using ha0, ?_⟩
      rw [beq_eq_false_iff_ne]
      exact fun hh => h0 ⟨ha0, hh⟩
    · exact .inl (by simpa using ha0)
  · exact iProveGcd_bad a b w h
end Go.Proofs.Ytepbjdjhniidaaa
