/- Parts of the proof, merged: GcdW ProveRW UnitW UnitSW. No condition but those that each theorem names. -/
import Derived.Test.YtpgkellmhlmjeaaGreatDoorMgAI
import Derived.Test.YtpgkellmhlmjeaaGreatDoorMgAE
import Derived.Test.YtpgkellmhlmjeaaGreatDoorMgAK
import Derived.Test.YtpgkellmhlmjeaaGreatDoorMgAC
import Derived.Deep.RegionWith
import Derived.Deep.RegionLaw
namespace Go.Proofs.YtpgkellmhlmjeaaGreatDoor
open Go.RowKit Go.Sort
/-- Euclid's algorithm with its multipliers, as the texts go it. -/
def eucF : Nat → Nat → Nat → Int → Int → Int → Int → Nat × Int × Int
  | 0, r, _, x, y, _, _ => (r, x, y)
  | f + 1, r, s, x, y, u, v => if s = 0 then (r, x, y) else eucF f s (r % s) u v (wrap64 (x - wrap64 ((r : Int) / (s : Int) * u))) (wrap64 (y - wrap64 ((r : Int) / (s : Int) * v)))
theorem eucF_zero (f r : Nat) (x y u v : Int) : eucF f r 0 x y u v = (r, x, y) := by cases f <;> simp [eucF]
def eucS (a b : Int) : Nat × Int × Int := eucF b.natAbs a.natAbs b.natAbs 1 0 0 1
def eucX (a b : Int) : Int := if a < 0 then wrap64 (-(eucS a b).2.1) else (eucS a b).2.1
def eucY (a b : Int) : Int := if b < 0 then wrap64 (-(eucS a b).2.2) else (eucS a b).2.2
def pgC (a b : Int) : Int := if (modB a && modB b) = true then (if a = 0 ∧ b = 0 then 6 else 0) else 2
def pgK (a b : Int) : Int := if pgC a b = 0 then 1 else 0
def pgX (a b : Int) : List Int := if pgC a b = 0 then [a, b, (eucS a b).1, eucX a b, eucY a b] else []
/-- What holds at a round's head. -/
def EU (a b : Int) (r x y s u v : Value) : Prop :=
  ∃ f r' s' : Nat, ∃ x' y' u' v' : Int, s' ≤ f ∧ r' ≤ 1000000000 ∧ s' ≤ 1000000000 ∧ eucF f r' s' x' y' u' v' = eucS a b ∧ r = .int .i64 r' ∧ s = .int .i64 s' ∧ x = .int .i64 x' ∧ y = .int .i64 y' ∧ u = .int .i64 u' ∧ v = .int .i64 v'
theorem iProveGcd_bad (a b : Int) (w : World) (h : ¬ pgC a b = 0) :
    Calls Tryz.prog 20 #[.int .i64 a, .int .i64 b] w (RetCertC w (pgK a b) (pgX a b) (pgC a b)) := by
  have e2 : pgK a b = 0 := by simp [pgK, h]
  have e3 : pgX a b = [] := by simp [pgX, h]
  rw [e2, e3]
  clear e2 e3
  cases ha : modB a
  · have e1 : pgC a b = 2 := by simp [pgC, ha]
    rw [e1]
    clear e1 h
    go_enter Tryz.func20, Tryz.ntmps20
    go_wp2_with (go_at_call 51; refine (isModerate_any _ _).mono ?_; rintro e w' ⟨rfl, rfl⟩)
    exact bodyPost_ret (v := .tuple #[certV 0 none 0 0, .int .i64 2]) (by simp [results, Tryz.results20, go_sem]; done) rfl ⟨none, 0, rfl, fun h => absurd h (by simp), ⟨Nat.le_refl _, Nat.zero_le _⟩, ext_alloc (Below.refl _ _) _⟩
  · cases hb : modB b
    · have e1 : pgC a b = 2 := by simp [pgC, hb]
      rw [e1]
      clear e1 h
      go_enter Tryz.func20, Tryz.ntmps20
      go_wp2_with (go_at_call 51; refine (isModerate_any _ _).mono ?_; rintro e w' ⟨rfl, rfl⟩)
      exact bodyPost_ret (v := .tuple #[certV 0 none 0 0, .int .i64 2]) (by simp [results, Tryz.results20, go_sem]; done) rfl ⟨none, 0, rfl, fun h => absurd h (by simp), ⟨Nat.le_refl _, Nat.zero_le _⟩, ext_alloc (Below.refl _ _) _⟩
    · have h0 : a = 0 ∧ b = 0 := by
        rcases Classical.em (a = 0 ∧ b = 0) with h1 | h1
        · exact h1
        · exact absurd (by simp [pgC, ha, hb, h1]) h
      obtain ⟨rfl, rfl⟩ := h0
      have e1 : pgC 0 0 = 6 := by simp [pgC, ha]
      rw [e1]
      clear e1 h hb
      go_enter Tryz.func20, Tryz.ntmps20
      go_wp2_with (go_at_call 51; refine (isModerate_any _ _).mono ?_; rintro e w' ⟨rfl, rfl⟩)
      exact bodyPost_ret (v := .tuple #[certV 0 none 0 0, .int .i64 6]) (by simp [results, Tryz.results20, go_sem]; done) rfl ⟨none, 0, rfl, fun h => absurd h (by simp), ⟨Nat.le_refl _, Nat.zero_le _⟩, ext_alloc (Below.refl _ _) _⟩
theorem pgC_zero {a b : Int} (h : pgC a b = 0) : modB a = true ∧ modB b = true ∧ ¬ (a = 0 ∧ b = 0) := by
  unfold pgC at h
  split at h
  · rename_i h1
    split at h
    · cases h
    · rename_i h2
      rw [Bool.and_eq_true] at h1
      exact ⟨h1.1, h1.2, h2⟩
  · cases h
set_option maxHeartbeats 1000000 in
theorem iProveGcd_good (a b : Int) (w : World) (ha : modB a = true) (hb : modB b = true) (hh : (a == 0) = false ∨ ((a == 0) = true ∧ (b == 0) = false)) :
    Calls Tryz.prog 20 #[.int .i64 a, .int .i64 b] w (RetCertC w 1 [a, b, (eucS a b).1, eucX a b, eucY a b] 0) := by
  obtain ⟨a1, a2⟩ := modB_true.1 ha
  obtain ⟨b1, b2⟩ := modB_true.1 hb
  rcases hh with hh | ⟨hh, hh'⟩
  all_goals
    go_enter Tryz.func20, Tryz.ntmps20
    go_wp2_with (first | (go_at_call 51; refine (isModerate_any _ _).mono ?_; rintro e w' ⟨rfl, rfl⟩) | (go_at_call 52; refine (abs_any _ _ (by omega) (by omega)).mono ?_; rintro e w' ⟨rfl, rfl⟩))
    go_loop [6, 7, 8, 9, 10, 11] (fun r x y s u v => EU a b r x y s u v) (fun _ _ _ s _ _ => (intOf s).toNat)
    case atStart => exact ⟨b.natAbs, a.natAbs, b.natAbs, 1, 0, 0, 1, by omega, by omega, by omega, rfl, rfl, rfl, rfl, rfl, rfl, rfl⟩
    case round =>
      obtain ⟨f, r, s, x, y, u, v, hf, hr, hs, he, rfl, rfl, rfl, rfl, rfl, rfl⟩ := hrel
      by_cases h0 : 0 < s
      · obtain ⟨g, rfl⟩ : ∃ g, f = g + 1 := ⟨f - 1, by omega⟩
        rw [eucF, if_neg (by omega)] at he
        have HE := Lib.hid he
        clear he
        have e1 : ((s : Int) != 0) = true := by rw [bne_iff_ne]; omega
        have e2 : ((s : Int) == 0) = false := by simp; omega
        have hm : r % s < s := Nat.mod_lt _ h0
        have q1 : 0 ≤ (r : Int) / (s : Int) := Int.ediv_nonneg (by omega) (by omega)
        have q2 : (r : Int) / (s : Int) ≤ r := Int.ediv_le_self _ (by omega)
        have q3 : (r : Int) - (r : Int) / (s : Int) * (s : Int) = ((r % s : Nat) : Int) := by
          have := Int.mul_ediv_add_emod (r : Int) (s : Int)
          rw [Int.mul_comm] at this
          rw [Int.natCast_emod]; omega
        have q4 : 0 ≤ (r : Int) / (s : Int) * (s : Int) ∧ (r : Int) / (s : Int) * (s : Int) ≤ r := by
          rw [Int.natCast_emod] at q3
          have := Int.emod_nonneg (r : Int) (b := (s : Int)) (by omega)
          have := Int.mul_nonneg q1 (show 0 ≤ (s : Int) by omega)
          omega
        obtain ⟨q4, q5⟩ := q4
        generalize hq : (r : Int) / (s : Int) = q at *
        generalize hqs : q * (s : Int) = qs at *
        have Q3 := Lib.hid q3
        clear q3
        go_wp2
        go_round
        case rel => exact ⟨g, s, r % s, u, v, _, _, by omega, hs, by omega, HE.out, rfl, val_int Q3.out, rfl, rfl, rfl, rfl⟩
        case measure =>
          have h1 := Q3.out
          simp only [intOf]
          omega
      · obtain rfl : s = 0 := by omega
        rw [eucF_zero] at he
        have f1 : eucX a b = if a < 0 then wrap64 (-x) else x := by rw [eucX, ← he]
        have f2 : eucY a b = if b < 0 then wrap64 (-y) else y := by rw [eucY, ← he]
        have f3 : (eucS a b).1 = r := by rw [← he]
        have F1 := Lib.hid f1
        have F2 := Lib.hid f2
        have F3 := Lib.hid f3
        clear f1 f2 f3 he
        have e1 : (((0 : Nat) : Int) != 0) = false := by simp
        by_cases ha : a < 0
        all_goals
          by_cases hb : b < 0
          all_goals
            have G : Hid (∀ x' y' : Int, (if a < 0 then wrap64 (-x) else x) = x' → (if b < 0 then wrap64 (-y) else y) = y' → [a, b, ((eucS a b).1 : Int), eucX a b, eucY a b] = [a, b, (r : Int), x', y']) := by
              intro x' y' h1 h2
              rw [F1.out, F2.out, F3.out, h1, h2]
            go_wp2
            first
              | exact bodyPost_ret (v := .tuple #[certV 1 (some ⟨w.heap.size + 1, 0, none⟩) 5 5, .int .i64 0]) (by simp [results, Tryz.results20, go_sem]; done) rfl ⟨_, _, rfl, (Wr.lit' _ (xs := [a, b, (eucS a b).1, eucX a b, eucY a b]) (by simp) (by rw [G.out (wrap64 (-x)) (wrap64 (-y)) (if_pos ha) (if_pos hb)]; rfl)).more (by omega), ⟨by simp, by unfold maxLen; omega⟩, ext_alloc (ext_alloc (Below.refl _ _) _) _⟩
              | exact bodyPost_ret (v := .tuple #[certV 1 (some ⟨w.heap.size + 1, 0, none⟩) 5 5, .int .i64 0]) (by simp [results, Tryz.results20, go_sem]; done) rfl ⟨_, _, rfl, (Wr.lit' _ (xs := [a, b, (eucS a b).1, eucX a b, eucY a b]) (by simp) (by rw [G.out (wrap64 (-x)) y (if_pos ha) (if_neg (by omega))]; rfl)).more (by omega), ⟨by simp, by unfold maxLen; omega⟩, ext_alloc (ext_alloc (Below.refl _ _) _) _⟩
              | exact bodyPost_ret (v := .tuple #[certV 1 (some ⟨w.heap.size + 1, 0, none⟩) 5 5, .int .i64 0]) (by simp [results, Tryz.results20, go_sem]; done) rfl ⟨_, _, rfl, (Wr.lit' _ (xs := [a, b, (eucS a b).1, eucX a b, eucY a b]) (by simp) (by rw [G.out x (wrap64 (-y)) (if_neg (by omega)) (if_pos hb)]; rfl)).more (by omega), ⟨by simp, by unfold maxLen; omega⟩, ext_alloc (ext_alloc (Below.refl _ _) _) _⟩
              | exact bodyPost_ret (v := .tuple #[certV 1 (some ⟨w.heap.size + 1, 0, none⟩) 5 5, .int .i64 0]) (by simp [results, Tryz.results20, go_sem]; done) rfl ⟨_, _, rfl, (Wr.lit' _ (xs := [a, b, (eucS a b).1, eucX a b, eucY a b]) (by simp) (by rw [G.out x y (if_neg (by omega)) (if_neg (by omega))]; rfl)).more (by omega), ⟨by simp, by unfold maxLen; omega⟩, ext_alloc (ext_alloc (Below.refl _ _) _) _⟩
theorem iProveGcd_any (a b : Int) (w : World) :
    Calls Tryz.prog 20 #[.int .i64 a, .int .i64 b] w (RetCertC w (pgK a b) (pgX a b) (pgC a b)) := by
  by_cases h : pgC a b = 0
  · obtain ⟨ha, hb, h0⟩ := pgC_zero h
    have e2 : pgK a b = 1 := by simp [pgK, h]
    have e3 : pgX a b = [a, b, (eucS a b).1, eucX a b, eucY a b] := by simp [pgX, h]
    rw [h, e2, e3]
    refine iProveGcd_good a b w ha hb ?_
    by_cases ha0 : a = 0
    · refine .inr ⟨by simpa using ha0, ?_⟩
      rw [beq_eq_false_iff_ne]
      exact fun hh => h0 ⟨ha0, hh⟩
    · exact .inl (by simpa using ha0)
  · exact iProveGcd_bad a b w h
end Go.Proofs.YtpgkellmhlmjeaaGreatDoor
namespace Go.Proofs.YtpgkellmhlmjeaaGreatDoor
open Go.RowKit Go.Sort
/-- ProveRoot: the code and the numbers. -/
def prC (n : Int) : Int := if modB n = true then (if n < 0 then 6 else if sqB n = true then 6 else 0) else 2
def prK (n : Int) : Int := if prC n = 0 then 2 else 0
def prX (n : Int) : List Int := if prC n = 0 then [n, rtI n] else []
set_option maxHeartbeats 1000000 in
theorem iProveRoot_any (n : Int) (w : World) : Calls Tryz.prog 21 #[.int .i64 n] w (RetCertC w (prK n) (prX n) (prC n)) := by
  cases hm : modB n
  · have e1 : prC n = 2 := by simp [prC, hm]
    have e2 : prK n = 0 := by simp [prK, e1]
    have e3 : prX n = [] := by simp [prX, e1]
    rw [e1, e2, e3]
    clear e1 e2 e3
    go_enter Tryz.func21, Tryz.ntmps21
    go_wp2_with (go_at_call 51; refine (isModerate_any _ _).mono ?_; rintro e w' ⟨rfl, rfl⟩)
    exact bodyPost_ret (v := .tuple #[certV 0 none 0 0, .int .i64 2]) (by simp [results, Tryz.results21, go_sem]; done) rfl ⟨none, 0, rfl, fun h => absurd h (by simp), ⟨Nat.le_refl _, Nat.zero_le _⟩, ext_alloc (Below.refl _ _) _⟩
  · obtain ⟨n1, n2⟩ := modB_true.1 hm
    by_cases h0 : n < 0
    · have e1 : prC n = 6 := by simp [prC, hm, h0]
      have e2 : prK n = 0 := by simp [prK, e1]
      have e3 : prX n = [] := by simp [prX, e1]
      rw [e1, e2, e3]
      clear e1 e2 e3
      go_enter Tryz.func21, Tryz.ntmps21
      go_wp2_with (go_at_call 51; refine (isModerate_any _ _).mono ?_; rintro e w' ⟨rfl, rfl⟩)
      exact bodyPost_ret (v := .tuple #[certV 0 none 0 0, .int .i64 6]) (by simp [results, Tryz.results21, go_sem]; done) rfl ⟨none, 0, rfl, fun h => absurd h (by simp), ⟨Nat.le_refl _, Nat.zero_le _⟩, ext_alloc (Below.refl _ _) _⟩
    · have HQ := Lib.hid (isSquare_any n · (by omega) (by omega))
      have HR := Lib.hid (root_any n · (by omega) (by omega))
      cases hs : sqB n
      · have e1 : prC n = 0 := by simp [prC, hm, h0, hs]
        have e2 : prK n = 2 := by simp [prK, e1]
        have e3 : prX n = [n, rtI n] := by simp [prX, e1]
        rw [e1, e2, e3]
        clear e1 e2 e3
        rw [hs] at HQ
        clear hs
        generalize rtI n = r at *
        go_enter Tryz.func21, Tryz.ntmps21
        go_wp2_with (first | (go_at_call 51; refine (isModerate_any _ _).mono ?_; rintro e w' ⟨rfl, rfl⟩) | (go_at_call 53; refine (HQ.out _).mono ?_; rintro e w' ⟨rfl, rfl⟩) | (go_at_call 54; refine (HR.out _).mono ?_; rintro e w' ⟨rfl, rfl⟩))
        exact bodyPost_ret (v := .tuple #[certV 2 (some ⟨w.heap.size + 1, 0, none⟩) 2 2, .int .i64 0]) (by simp [results, Tryz.results21, go_sem]; done) rfl ⟨_, _, rfl, (Wr.lit' _ (xs := [n, r]) (by simp) rfl).more (by omega), ⟨by simp, by unfold maxLen; omega⟩, ext_alloc (ext_alloc (Below.refl _ _) _) _⟩
      · have e1 : prC n = 6 := by simp [prC, hm, h0, hs]
        have e2 : prK n = 0 := by simp [prK, e1]
        have e3 : prX n = [] := by simp [prX, e1]
        rw [e1, e2, e3]
        clear e1 e2 e3
        rw [hs] at HQ
        clear hs
        go_enter Tryz.func21, Tryz.ntmps21
        go_wp2_with (first | (go_at_call 51; refine (isModerate_any _ _).mono ?_; rintro e w' ⟨rfl, rfl⟩) | (go_at_call 53; refine (HQ.out _).mono ?_; rintro e w' ⟨rfl, rfl⟩))
        exact bodyPost_ret (v := .tuple #[certV 0 none 0 0, .int .i64 6]) (by simp [results, Tryz.results21, go_sem]; done) rfl ⟨none, 0, rfl, fun h => absurd h (by simp), ⟨Nat.le_refl _, Nat.zero_le _⟩, ext_alloc (Below.refl _ _) _⟩
end Go.Proofs.YtpgkellmhlmjeaaGreatDoor
namespace Go.Proofs.YtpgkellmhlmjeaaGreatDoor
open Go.RowKit Go.Sort
@[reducible] def pairV (x y : Int) : Value := .agg #[.int .i64 x, .int .i64 y]
theorem dquo {d : Int} (h1 : 2 ≤ d) : 0 ≤ 1000000000000000000 / d ∧ 1000000000000000000 / d ≤ 1000000000000000000 ∧ (1000000000000000000 : Int).tdiv d = 1000000000000000000 / d := by
  refine ⟨Int.ediv_nonneg (by omega) (by omega), ?_, Int.tdiv_eq_ediv_of_nonneg (by omega)⟩
  exact Int.ediv_le_self _ (by omega)
set_option maxHeartbeats 1000000 in
theorem isPlainPair_any (d x y : Int) (w : World) (h1 : 2 ≤ d) (h2 : d ≤ 10000) :
    Calls Tryz.prog 142 #[.int .i64 d, pairV x y] w fun e w' => e = .returned (.bool (plB d x y)) ∧ Below w.heap.size w w' := by
  obtain ⟨q1, q2, q3⟩ := dquo h1
  have e0 : (d == 0) = false := by simp; omega
  unfold pairV plB
  generalize 1000000000000000000 / d = z at *
  have w3 : IntKind.i64.wrap ((1000000000000000000 : Int).tdiv d) = z := by rw [q3]; exact IntWalk.i64_in _ (by omega)
  cases hx : inR x (-1000000000) 1000000000
  all_goals cases hy : inR y (-1000000000) 1000000000
  case true.true =>
    obtain ⟨y1, y2⟩ := inR_true.1 hy
    have m := mul_bd (x := y) (y := y) (M := 1000000000) (N := 1000000000) (by omega) y2 (by omega) y2 y1 y1
    obtain ⟨m1, m2⟩ := m
    have w4 : IntKind.i64.wrap (y * y) = y * y := IntWalk.i64_in _ (by omega)
    have HX := Lib.hid hx
    have HY := Lib.hid hy
    clear hx hy
    simp only [Bool.true_and]
    go_enter Tryz.func142, Tryz.ntmps142
    go_wp2
    generalize hW : w.alloc _ = W
    have hb0 : Below w.heap.size w W := by rw [← hW]; exact ext1 _ _
    have k0 : ∀ d' os, (grow (redrawn W d') os).cell? ⟨w.heap.size, 0, none⟩ = some (.int .i64 x) := cell_regrown (by rw [← hW, cell_one]; rfl)
    have k1 : ∀ d' os, (grow (redrawn W d') os).cell? ⟨w.heap.size, 1, none⟩ = some (.int .i64 y) := cell_regrown (by rw [← hW, cell_one]; rfl)
    clear hW
    refine wp_region_quiet_below (by kernel_rfl) (by kernel_rfl) ?_
    repeat (first | go_big_quiet_step ((first | (with_reducible exact regrown_same (within_is HX.out _)) | (with_reducible exact regrown_same (within_is HY.out _)))) | quiet_step ((first | (with_reducible exact regrown_same (within_is HX.out _)) | (with_reducible exact regrown_same (within_is HY.out _)))))
    refine wpQuiet_nil ?_
    intro _ hw'
    obtain ⟨⟨dq, oq⟩, hw''⟩ := hw'
    subst hw''
    go_wp2
    go_ret
    exact ⟨rfl, ext_trans hb0 (below_regrown W dq oq)⟩
  all_goals
    have HX := Lib.hid hx
    have HY := Lib.hid hy
    clear hx hy
    simp only [Bool.true_and, Bool.false_and]
    go_enter Tryz.func142, Tryz.ntmps142
    go_wp2
    generalize hW : w.alloc _ = W
    have hb0 : Below w.heap.size w W := by rw [← hW]; exact ext1 _ _
    have k0 : ∀ d' os, (grow (redrawn W d') os).cell? ⟨w.heap.size, 0, none⟩ = some (.int .i64 x) := cell_regrown (by rw [← hW, cell_one]; rfl)
    have k1 : ∀ d' os, (grow (redrawn W d') os).cell? ⟨w.heap.size, 1, none⟩ = some (.int .i64 y) := cell_regrown (by rw [← hW, cell_one]; rfl)
    clear hW
    refine wp_region_quiet_below (by kernel_rfl) (by kernel_rfl) ?_
    repeat (first | go_big_quiet_step ((first | (with_reducible exact regrown_same (within_is HX.out _)) | (with_reducible exact regrown_same (within_is HY.out _)))) | quiet_step ((first | (with_reducible exact regrown_same (within_is HX.out _)) | (with_reducible exact regrown_same (within_is HY.out _)))))
    refine wpQuiet_nil ?_
    intro _ hw'
    obtain ⟨⟨dq, oq⟩, hw''⟩ := hw'
    subst hw''
    go_wp2
    go_ret
    exact ⟨rfl, ext_trans hb0 (below_regrown W dq oq)⟩
theorem norm_any (d x y : Int) (w : World) (h1 : 2 ≤ d) (h2 : d ≤ 10000) (h : plB d x y = true) :
    Calls Tryz.prog 143 #[.int .i64 d, pairV x y] w fun e w' => e = .returned (.int .i64 (x * x - d * y * y)) ∧ Below w.heap.size w w' := by
  obtain ⟨⟨x1, x2⟩, ⟨y1, y2⟩, hq⟩ := plB_true.1 h
  have m1 := mul_bd (x := x) (y := x) (M := 1000000000) (N := 1000000000) (by omega) x2 (by omega) x2 x1 x1
  have m2 := mul_bd (x := d) (y := y) (M := 10000) (N := 1000000000) (by omega) h2 (by omega) y2 (by omega) y1
  have m3 : 0 ≤ d * y * y ∧ d * y * y ≤ 1000000000000000000 := by
    have e : d * y * y = d * (y * y) := Int.mul_assoc _ _ _
    have h0 : 0 ≤ y * y := by
      rcases Int.le_total 0 y with g | g
      · exact Int.mul_nonneg g g
      · exact Int.mul_nonneg_of_nonpos_of_nonpos g g
    rw [e]
    refine ⟨Int.mul_nonneg (by omega) h0, ?_⟩
    have h3 := Int.mul_le_mul_of_nonneg_left hq (show 0 ≤ d by omega)
    have h4 := Int.mul_ediv_self_le (x := 1000000000000000000) (k := d) (by omega)
    omega
  obtain ⟨a1, a2⟩ := m1
  obtain ⟨b1, b2⟩ := m2
  obtain ⟨c1, c2⟩ := m3
  have h0x : 0 ≤ x * x := by
    rcases Int.le_total 0 x with g | g
    · exact Int.mul_nonneg g g
    · exact Int.mul_nonneg_of_nonpos_of_nonpos g g
  unfold pairV
  go_enter Tryz.func143, Tryz.ntmps143
  go_wp2
  go_ret
  exact ⟨rfl, ext1 _ _⟩
theorem checkPell_any (d : Int) (w : World) : Calls Tryz.prog 100 #[.int .i64 d, .slice none 0 0] w fun e w' => e = .returned (.int .i64 (pcC d)) ∧ w = w' := by
  unfold pcC
  cases hx : inR d 2 10000
  · have HX := Lib.hid hx
    clear hx
    simp only [Bool.false_eq_true, if_false]
    go_enter Tryz.func100, Tryz.ntmps100
    go_wp2_with (go_at_call 70; (with_reducible refine (within_is HX.out _).mono ?_); rintro e w' ⟨rfl, rfl⟩)
    go_ret
    exact ⟨rfl, rfl⟩
  · obtain ⟨d1, d2⟩ := inR_true.1 hx
    have HX := Lib.hid hx
    have HQ := Lib.hid (fun W : World => isSquare_any d W (by omega) (by omega))
    clear hx
    cases hs : sqB d
    · rw [hs] at HQ
      clear hs
      simp only [Bool.false_eq_true, if_false, if_true]
      go_enter Tryz.func100, Tryz.ntmps100
      go_wp2_with (first | (go_at_call 70; (with_reducible refine (within_is HX.out _).mono ?_); rintro e w' ⟨rfl, rfl⟩) | (go_at_call 53; (with_reducible refine (HQ.out _).mono ?_); rintro e w' ⟨rfl, rfl⟩))
      refine wp_loop_rounds 1 ?_
      rw [rounds_succ]
      go_wp2
      go_ret
      exact ⟨rfl, rfl⟩
    · rw [hs] at HQ
      clear hs
      simp only [if_true]
      go_enter Tryz.func100, Tryz.ntmps100
      go_wp2_with (first | (go_at_call 70; (with_reducible refine (within_is HX.out _).mono ?_); rintro e w' ⟨rfl, rfl⟩) | (go_at_call 53; (with_reducible refine (HQ.out _).mono ?_); rintro e w' ⟨rfl, rfl⟩))
      go_ret
      exact ⟨rfl, rfl⟩
theorem l09D_any (d : Int) (w : World) : Calls Tryz.prog 40 #[.int .i64 d] w fun e w' => e = .returned (.int .i64 (pcC d)) ∧ w = w' := by
  unfold pcC
  cases hx : inR d 2 10000
  · have HX := Lib.hid hx
    clear hx
    simp only [Bool.false_eq_true, if_false]
    go_enter Tryz.func40, Tryz.ntmps40
    go_wp2_with (go_at_call 38; (with_reducible refine (l00In_is HX.out _).mono ?_); rintro e w' ⟨rfl, rfl⟩)
    go_ret
    exact ⟨rfl, rfl⟩
  · obtain ⟨d1, d2⟩ := inR_true.1 hx
    have HX := Lib.hid hx
    have HQ := Lib.hid (fun W : World => l07Square_any d W (by omega) (by omega))
    clear hx
    cases hs : sqB d
    all_goals
      rw [hs] at HQ
      clear hs
      simp only [Bool.false_eq_true, if_false, if_true]
      go_enter Tryz.func40, Tryz.ntmps40
      go_wp2_with (first | (go_at_call 38; (with_reducible refine (l00In_is HX.out _).mono ?_); rintro e w' ⟨rfl, rfl⟩) | (go_at_call 86; (with_reducible refine (HQ.out _).mono ?_); rintro e w' ⟨rfl, rfl⟩))
      go_ret
      exact ⟨rfl, rfl⟩
theorem asL_one {d : Int} {n : Nat} (h1 : 2 ≤ d) (h2 : d ≤ 10000) (h3 : sqB d = false) (hn : n = pdN d) : hdR (perOf (0, d, 1)) = [rtI d] ∧ cyR (perOf (0, d, 1)) = asL d n := by
  subst hn
  have e := (pdN_spec h1 h2 h3).2.2.2.2
  have hd : NoSq d := ⟨h1, by omega, h3⟩
  rw [e]
  have hm := cyL_terms hd (pdN d)
  refine ⟨?_, ?_⟩
  · show ((cyL d (pdN d)).take 1).map flS = _
    rw [List.map_take, hm]; rfl
  · show ((cyL d (pdN d)).drop 1).map flS = _
    rw [List.map_drop, hm]; rfl
theorem rootPeriod_any (d : Int) (w : World) (h1 : 2 ≤ d) (h2 : d ≤ 10000) (h3 : sqB d = false) :
    Calls Tryz.prog 57 #[.int .i64 d] w fun e w' => ∃ A c, e = .returned (.tuple #[.int .i64 (rtI d), .slice A (pdN d) c, .bool true]) ∧ Wr (Value.int .i64) w' w.heap.size A (asL d (pdN d)) ∧ (pdN d ≤ c ∧ c ≤ maxLen) ∧ Below w.heap.size w w' := by
  have hd : NoSq d := ⟨h1, by omega, h3⟩
  obtain ⟨a1, a2⟩ := asL_one h1 h2 h3 rfl
  have a3 := (pdN_spec h1 h2 h3).2.2.2.2
  have HP : Hid (∀ W, Calls Tryz.prog 102 #[surdV 0 d 1] W fun e w' => ∃ A1 c1 A2 c2, e = .returned (.tuple #[.slice A1 1 c1, .slice A2 (pdN d) c2, .bool true]) ∧ Wr (Value.int .i64) w' W.heap.size A1 [rtI d] ∧ Wr (Value.int .i64) w' W.heap.size A2 (asL d (pdN d)) ∧ (1 ≤ c1 ∧ pdN d ≤ c2 ∧ c1 ≤ maxLen ∧ c2 ≤ maxLen) ∧ Below W.heap.size W w') := fun W => by
    have h := periodOf_any 0 d 1 W (next_root hd).2.2
    unfold RetPd at h
    rw [a1, a2, a3, asL_length] at h
    exact h
  clear a1 a2 a3 hd h3
  generalize asL d (pdN d) = C at *
  generalize pdN d = n at *
  generalize rtI d = r at *
  unfold surdV at *
  go_enter Tryz.func57, Tryz.ntmps57
  go_wp2_with fail
  refine (HP.out _).mono ?_
  rintro e w1 ⟨A1, c1, A2, c2, rfl, g1, g2, hcp, hb1⟩
  have HCP := Lib.hid hcp
  clear hcp
  obtain ⟨b, off, rfl, _, _, hc, _⟩ := g1 (by simp)
  have c0 := hc 0 r rfl
  rw [Nat.add_zero] at c0
  have G2 := Lib.hid g2
  have HB := Lib.hid hb1
  clear g1 g2 hb1 hc
  go_wp2
  go_ret3
  exact ⟨A2, c2, rfl, G2.out, ⟨HCP.out.2.1, HCP.out.2.2.2⟩, HB.out⟩
/-- What a call returns that makes the least unit. -/
def RetUn (w : World) (R : Option (Int × Int)) (x : Value) (e : Ending) (w' : World) : Prop :=
  ∃ N : Int, e = .returned (.tuple #[pairV (R.getD (0, 0)).1 (R.getD (0, 0)).2, .int .i64 N, x]) ∧ Below w.heap.size w w'
theorem unI_step {d : Int} {ts : List Int} {k : Nat} {t x y x0 y0 : Int} (h : ts[k]? = some t) : unI d (ts.drop k) x y x0 y0 = if plB d (t * x + x0) (t * y + y0) = true then unI d (ts.drop (k + 1)) (t * x + x0) (t * y + y0) x y else none := by
  obtain ⟨h1, h2⟩ := List.getElem?_eq_some_iff.1 h
  rw [List.drop_eq_getElem_cons h1, h2]; rfl
theorem unI_end {d : Int} {ts : List Int} {k : Nat} {x y x0 y0 : Int} (h : ¬ k < ts.length) : unI d (ts.drop k) x y x0 y0 = some (x, y) := by
  rw [List.drop_eq_nil_of_le (by omega)]; rfl
theorem asL_get {d : Int} {n j : Nat} (h : j < n) : (asL d n)[j]? = some (flS (itS (fsS d) j)) := by
  unfold asL
  rw [List.getElem?_map, List.getElem?_range h]; rfl
set_option maxRecDepth 100000 in
set_option maxHeartbeats 2000000 in
theorem unit_any (d : Int) (w : World) (h1 : 2 ≤ d) (h2 : d ≤ 10000) (h3 : sqB d = false) :
    Calls Tryz.prog 101 #[.int .i64 d] w (RetUn w (unR d) (.bool (unR d).isSome)) := by
  have hd : NoSq d := ⟨h1, by omega, h3⟩
  obtain ⟨n1, n2, _⟩ := pdN_spec h1 h2 h3
  obtain ⟨r1, r2⟩ := rt_99 h1 h2 h3
  have HRP := Lib.hid (fun W : World => rootPeriod_any d W h1 h2 h3)
  have hpl := plain_root h1 h2 h3
  obtain ⟨R, hR⟩ : ∃ R, unR d = R := ⟨_, rfl⟩
  have HR : Hid (unI d ((asL d (pdN d - 1)).drop 0) (rtI d) 1 1 0 = R) := hR
  rw [hR]
  have HA : Hid (∀ j, j < pdN d - 1 → ∃ t, (asL d (pdN d))[j]? = some t ∧ (asL d (pdN d - 1))[j]? = some t ∧ 1 ≤ t ∧ t ≤ 2000) := fun j hj => by
    have e1 := asL_get (d := d) (n := pdN d) (j := j) (by omega)
    have e2 := asL_get (d := d) (n := pdN d - 1) (j := j) (by omega)
    exact ⟨_, e1, e2, asL_pos hd _ _ (List.mem_of_getElem? e1)⟩
  have hl := asL_length d (pdN d - 1)
  have hl2 := asL_length d (pdN d)
  have HNM := Lib.hid (fun (x y : Int) (W : World) (h : plB d x y = true) => norm_any d x y W h1 h2 h)
  have HPP := Lib.hid (fun (x y : Int) (W : World) => isPlainPair_any d x y W h1 h2)
  clear hR hd h3
  generalize asL d (pdN d - 1) = ts at *
  generalize asL d (pdN d) = C at *
  generalize pdN d = n at *
  generalize rtI d = r at *
  unfold pairV at *
  go_enter Tryz.func101, Tryz.ntmps101
  go_wp2_with fail
  refine (HRP.out _).mono ?_
  rintro e w1 ⟨A, c, rfl, g2, ⟨cp1, cp2⟩, hb1⟩
  unfold maxLen at cp2
  have B2 : BoxV w.heap.size [.int .i64 0, .int .i64 0] w1 := (BoxV.new w #[.int .i64 0, .int .i64 0] 34).next hb1
  have HB := Lib.hid (ext_trans (ext1 w (.cells #[.int .i64 0, .int .i64 0] 34)) hb1)
  obtain ⟨b, off, rfl, _, hbl, hc, _⟩ := g2 (by omega)
  have HC := Lib.hid hc
  clear hc g2 hb1
  have i1 : (1 : Int) ≤ (n : Int) := by omega
  have i2 : 0 ≤ (n : Int) - 1 := by omega
  have i3 : (n : Int) - 1 ≤ (c : Int) := by omega
  go_wp2_with fail
  go_loopw [28, 8, 9, 10, 11] (fun t a b e f wr => ∃ (k : Nat) (x y x0 y0 : Int), k ≤ n - 1 ∧ t = .int .i64 k ∧ a = .int .i64 x ∧ b = .int .i64 y ∧ e = .int .i64 x0 ∧ f = .int .i64 y0 ∧ Hid (plB d x y = true ∧ bil x0 ∧ bil y0 ∧ bil x ∧ bil y) ∧ Hid (unI d (ts.drop k) x y x0 y0 = R) ∧ Below w1.heap.size w1 wr) (fun t _ _ _ _ _ => n - (intOf t).toNat)
  case atStart => exact ⟨0, r, 1, 1, 0, by omega, rfl, rfl, rfl, rfl, rfl, ⟨hpl, ⟨by omega, by omega⟩, ⟨by omega, by omega⟩, ⟨by omega, by omega⟩, ⟨by omega, by omega⟩⟩, HR.out, Below.refl _ _⟩
  case round =>
    obtain ⟨k, x, y, x0, y0, hk, rfl, rfl, rfl, rfl, rfl, HPL, HU, hbe⟩ := hrel
    clear HR
    have hgw : w.heap.size < w1.heap.size := B2.lt
    by_cases hlt : k < n - 1
    · obtain ⟨t, t1, t2, t3, t4⟩ := HA.out k hlt
      have c0 := (hbe.cell (p := ⟨b, off + k, none⟩) hbl).trans (HC.out k t t1)
      have HS := Lib.hid (unI_step (d := d) (x := x) (y := y) (x0 := x0) (y0 := y0) t2)
      obtain ⟨hp, ⟨a1, a2⟩, ⟨a3, a4⟩, ⟨a5, a6⟩, ⟨a7, a8⟩⟩ := HPL.out
      have u1 := mul_bd (x := t) (y := x) (M := 2000) (N := 1000000000) (by omega) t4 (by omega) a6 (by omega) a5
      have u2 := mul_bd (x := t) (y := y) (M := 2000) (N := 1000000000) (by omega) t4 (by omega) a8 (by omega) a7
      obtain ⟨u1, u3⟩ := u1
      obtain ⟨u2, u4⟩ := u2
      have i0 : (0 : Int) ≤ (k : Int) := by omega
      have j1 : (k : Int) < (n : Int) - 1 := by omega
      have j2 : ¬ (k : Int) < 0 := by omega
      have HPN := Lib.hid (fun W : World => HPP.out (t * x + x0) (t * y + y0) W)
      clear hp t1 t2 t3 t4 hk
      cases hpn : plB d (t * x + x0) (t * y + y0)
      · have HN : Hid (R = none) := by
          have h := HU.out
          rw [HS.out, hpn] at h
          exact h.symm
        rw [hpn] at HPN
        clear HU HS hpn HPL
        generalize hxx : t * x + x0 = x' at *
        generalize hyy : t * y + y0 = y' at *
        have HXX := Lib.hid hxx
        have HYY := Lib.hid hyy
        clear hxx hyy
        go_wp2_with fail
        rw [HXX.out, HYY.out]
        refine (HPN.out _).mono ?_
        rintro e w3 ⟨rfl, hb3⟩
        have B3 := (B2.next hbe).next hb3
        have y0' := B3.at 0 _ rfl
        have y1' := B3.at 1 _ rfl
        have F0 := B3.f 0
        have F1 := B3.f 1
        obtain ⟨s0, s1⟩ := set_two y0' y1'
        have HBE := Lib.hid (ext_trans (ext_trans HB.out hbe) hb3)
        go_wp2
        exact bodyPost_ret (v := .tuple #[pairV 0 0, .int .i64 0, .bool false]) (by simp [results, Tryz.results101, go_sem, s0, s1]; done) rfl ⟨0, by rw [HN.out]; rfl, ext_set (ext_set HBE.out (Nat.le_refl _) _) (Nat.le_refl _) _⟩
      · have HN : Hid (unI d (ts.drop (k + 1)) (t * x + x0) (t * y + y0) x y = R) := by
          have h := HU.out
          rw [HS.out, hpn, if_pos rfl] at h
          exact h
        rw [hpn] at HPN
        obtain ⟨⟨v1, v2⟩, ⟨v3, v4⟩, _⟩ := plB_true.1 hpn
        have HPL2 : Hid (plB d (t * x + x0) (t * y + y0) = true ∧ bil x ∧ bil y ∧ bil (t * x + x0) ∧ bil (t * y + y0)) := ⟨hpn, ⟨a5, a6⟩, ⟨a7, a8⟩, ⟨v1, v2⟩, ⟨v3, v4⟩⟩
        clear HU HS hpn HPL
        generalize hxx : t * x + x0 = x' at *
        generalize hyy : t * y + y0 = y' at *
        have HXX := Lib.hid hxx
        have HYY := Lib.hid hyy
        clear hxx hyy
        go_wp2_with fail
        rw [HXX.out, HYY.out]
        refine (HPN.out _).mono ?_
        rintro e w3 ⟨rfl, hb3⟩
        go_wp2
        go_roundw
        case rel => exact ⟨k + 1, x', y', x, y, by omega, by go_num, rfl, rfl, rfl, rfl, HPL2.out, HN.out, ext_trans hbe hb3⟩
        case measure => simp [intOf]; omega
    · have HF : Hid (R = some (x, y)) := by
        have h := HU.out
        rw [unI_end (by omega)] at h
        exact h.symm
      have j1 : ¬ (k : Int) < (n : Int) - 1 := by omega
      have HNN := Lib.hid (fun W : World => HNM.out x y W HPL.out.1)
      have B3 := B2.next hbe
      have HBE := Lib.hid (ext_trans HB.out hbe)
      clear HU HPL hbe
      go_wp2_with fail
      have B5 := BoxV.new wr #[.int .i64 x, .int .i64 y] 34
      have B4 := Lib.hid (B3.alloc (.cells #[.int .i64 x, .int .i64 y] 34))
      have HB4 := Lib.hid (ext_alloc HBE.out (.cells #[.int .i64 x, .int .i64 y] 34))
      have hgr : w.heap.size < wr.heap.size := B3.lt
      generalize wr.alloc (.cells #[.int .i64 x, .int .i64 y] 34) = W at *
      generalize wr.heap.size = g at *
      have x0' := B5.at 0 _ rfl
      have x1' := B5.at 1 _ rfl
      have H3 := Lib.hid (fun (W : World) (hb : BoxV g [.int .i64 x, .int .i64 y] W) => And.intro (hb.at 0 _ rfl) (hb.at 1 _ rfl))
      go_wp2_with fail
      go_region_held3 (fun w' => w'.cell? ⟨g, 0, none⟩ = some (.int .i64 x) ∧ w'.cell? ⟨g, 1, none⟩ = some (.int .i64 y))
        (first | exact H3.out _ B5.drew | exact H3.out _ (B5.drew.next (by assumption)) | exact H3.out _ (((B5.drew.next hb4).setFar _ (by omega)).setFar _ (by omega)))
        (first | (go_at_call 143; (with_reducible refine (HNN.out _).mono ?_); rintro e w4 ⟨rfl, hb4⟩; have B6 := B4.out.drew.next hb4; have y0' := B6.at 0 _ rfl; have y1' := B6.at 1 _ rfl; have F0 := B6.f 0; have F1 := B6.f 1))
      obtain ⟨s0, s1⟩ := set_two y0' y1'
      go_wp2
      exact bodyPost_ret (v := .tuple #[pairV x y, .int .i64 (x * x - d * y * y), .bool true]) (by simp [results, Tryz.results101, go_sem, s0, s1]; done) rfl ⟨_, by rw [HF.out]; rfl, ext_set (ext_set (ext_trans (ext_drew HB4.out) hb4) (by simp) _) (by simp) _⟩
end Go.Proofs.YtpgkellmhlmjeaaGreatDoor
namespace Go.Proofs.YtpgkellmhlmjeaaGreatDoor
open Go.RowKit Go.Sort
theorem set4 {w : World} {b : Nat} {x y z u : Value} (h0 : w.cell? ⟨b, 0, none⟩ = some x) (h1 : w.cell? ⟨b, 1, none⟩ = some y) (h2 : w.cell? ⟨b, 2, none⟩ = some z) (h3 : w.cell? ⟨b, 3, none⟩ = some u) :
    (∀ v, (w.setCell ⟨b, 0, none⟩ v).cell? ⟨b, 0, none⟩ = some v) ∧ (∀ u v, ((w.setCell ⟨b, 0, none⟩ u).setCell ⟨b, 1, none⟩ v).cell? ⟨b, 1, none⟩ = some v) ∧ (∀ t u v, (((w.setCell ⟨b, 0, none⟩ t).setCell ⟨b, 1, none⟩ u).setCell ⟨b, 2, none⟩ v).cell? ⟨b, 2, none⟩ = some v) ∧
      (∀ s t u v, ((((w.setCell ⟨b, 0, none⟩ s).setCell ⟨b, 1, none⟩ t).setCell ⟨b, 2, none⟩ u).setCell ⟨b, 3, none⟩ v).cell? ⟨b, 3, none⟩ = some v) := by
  obtain ⟨a1, a2, a3⟩ := set3 h0 h1 h2
  refine ⟨a1, a2, a3, fun s t u v => World.cell?_setCell_same (v := v) _ _ ((World.cell?_setCell_other _ ⟨b, 2, none⟩ ⟨b, 3, none⟩ _ (by simp)).trans ((World.cell?_setCell_other _ ⟨b, 1, none⟩ ⟨b, 3, none⟩ _ (by simp)).trans ((World.cell?_setCell_other _ ⟨b, 0, none⟩ ⟨b, 3, none⟩ _ (by simp)).trans h3)))⟩
set_option maxRecDepth 100000 in
set_option maxHeartbeats 2000000 in
theorem l08Step_any (p q x y t : Int) (w : World) (hp : bil p) (hq : bil q) (hx : bil x) (hy : bil y) (ht : bil t) :
    Calls Tryz.prog 89 #[cvV p q x y, .int .i64 t] w fun e w' => e = .returned (.tuple #[cvV (t * p + x) (t * q + y) p q, .bool (smB (t * p + x) (t * q + y))]) ∧ Below w.heap.size w w' := by
  obtain ⟨t1, t2⟩ := id ht
  obtain ⟨p1, p2⟩ := id hp
  obtain ⟨q1, q2⟩ := id hq
  obtain ⟨x1, x2⟩ := id hx
  obtain ⟨y1, y2⟩ := id hy
  obtain ⟨u1, u2⟩ := mul_bd (x := t) (y := p) (M := 1000000000) (N := 1000000000) (by omega) t2 (by omega) p2 t1 p1
  obtain ⟨u3, u4⟩ := mul_bd (x := t) (y := q) (M := 1000000000) (N := 1000000000) (by omega) t2 (by omega) q2 t1 q1
  have HN := Lib.hid (fun W : World => l03Next_any p q x y t W hp hq hx hy ht)
  have hb1 : -1000000001000000000 ≤ t * p + x ∧ t * p + x ≤ 1000000001000000000 := by omega
  have hb2 : -1000000001000000000 ≤ t * q + y ∧ t * q + y ≤ 1000000001000000000 := by omega
  unfold smB
  clear hp hq hx hy ht u1 u2 u3 u4
  generalize t * p + x = a at *
  generalize t * q + y = b at *
  obtain ⟨a1, a2⟩ := hb1
  obtain ⟨b1, b2⟩ := hb2
  have HA := Lib.hid (fun W : World => l02Size_any a W (by omega) (by omega))
  have HB := Lib.hid (fun W : World => l02Size_any b W (by omega) (by omega))
  generalize (a.natAbs : Int) = na at *
  generalize (b.natAbs : Int) = nb at *
  unfold cvV at *
  cases hd : decide (na ≤ 1000000000)
  all_goals
    first | (rw [Bool.true_and]; have hle : na ≤ 1000000000 := of_decide_eq_true hd; clear hd) | (rw [Bool.false_and]; have hgt : ¬ na ≤ 1000000000 := of_decide_eq_false hd; have hg2 : 1000000000 < na := Int.not_le.mp hgt)
    go_enter Tryz.func89, Tryz.ntmps89
    go_wp2_with fail
    refine (HN.out _).mono ?_
    rintro e w1 ⟨rfl, hb1⟩
    have B2 : BoxV (w.heap.size + 1) [.int .i64 0, .int .i64 0, .int .i64 0, .int .i64 0] w1 := by
      have h := (BoxV.new (w.alloc (.cells #[.int .i64 p, .int .i64 q, .int .i64 x, .int .i64 y] 111)) #[.int .i64 0, .int .i64 0, .int .i64 0, .int .i64 0] 111).next hb1
      simpa using h
    have HBB := Lib.hid (ext_trans (ext_alloc (ext1 w (.cells #[.int .i64 p, .int .i64 q, .int .i64 x, .int .i64 y] 111)) (.cells #[.int .i64 0, .int .i64 0, .int .i64 0, .int .i64 0] 111)) hb1)
    have hg1 := B2.lt
    clear hb1
    go_wp2_with fail
    have B5 := BoxV.new w1 #[.int .i64 a, .int .i64 b, .int .i64 p, .int .i64 q] 111
    have B4 := Lib.hid (B2.alloc (.cells #[.int .i64 a, .int .i64 b, .int .i64 p, .int .i64 q] 111))
    have HB4 := Lib.hid (ext_alloc HBB.out (.cells #[.int .i64 a, .int .i64 b, .int .i64 p, .int .i64 q] 111))
    clear B2 HBB
    generalize w1.alloc (.cells #[.int .i64 a, .int .i64 b, .int .i64 p, .int .i64 q] 111) = W at *
    generalize w1.heap.size = g at *
    have z0 := B5.at 0 _ rfl
    have z1 := B5.at 1 _ rfl
    have z2 := B5.at 2 _ rfl
    have z3 := B5.at 3 _ rfl
    have H3 := Lib.hid (fun (W : World) (hb : BoxV g [.int .i64 a, .int .i64 b, .int .i64 p, .int .i64 q] W) => And.intro (hb.at 0 _ rfl) (And.intro (hb.at 1 _ rfl) (And.intro (hb.at 2 _ rfl) (hb.at 3 _ rfl))))
    have B6 := B4.out
    have y0' := B6.at 0 _ rfl
    have y1' := B6.at 1 _ rfl
    have y2' := B6.at 2 _ rfl
    have y3' := B6.at 3 _ rfl
    have F0 := B6.f 0
    have F1 := B6.f 1
    have F2 := B6.f 2
    have F3 := B6.f 3
    first | go_region_law (first | (go_simp; go_at_call 97; (with_reducible refine (HA.out _).mono ?_); rintro e w' ⟨rfl, rfl⟩) | (go_simp; go_at_call 97; (with_reducible refine (HB.out _).mono ?_); rintro e w' ⟨rfl, rfl⟩) | fail) | fail
    all_goals
      obtain ⟨s0, s1, s2, s3⟩ := set4 y0' y1' y2' y3'
      go_wp2
      first
        | exact bodyPost_ret (v := .tuple #[.agg #[.int .i64 a, .int .i64 b, .int .i64 p, .int .i64 q], .bool _]) (by simp [results, Tryz.results89, go_sem, s0, s1, s2, s3]; done) rfl ⟨rfl, by repeat (first | exact HB4.out | refine ext_set ?_ (by simp) _ | refine ext_drew ?_)⟩
        | exact bodyPost_ret (v := .tuple #[.agg #[.int .i64 a, .int .i64 b, .int .i64 p, .int .i64 q], .bool (decide (nb ≤ 1000000000))]) (by simp [results, Tryz.results89, go_sem, s0, s1, s2, s3]; done) rfl ⟨rfl, by repeat (first | exact HB4.out | refine ext_set ?_ (by simp) _ | refine ext_drew ?_)⟩
end Go.Proofs.YtpgkellmhlmjeaaGreatDoor
