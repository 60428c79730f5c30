/- ProveGcd, ProveLinear: the walks. No condition but those that each theorem names. -/
import Derived.Test.YtepbjdjhniidaaaCertW
import Derived.Test.YtepbjdjhniidaaaFracW
namespace Go.Proofs.Ytepbjdjhniidaaa
open Go.RowKit Go.Sort

/-- A number that may stand in a certificate. -/
def modB (n : Int) : Bool := inR n (-1000000000) 1000000000
theorem modB_true {n : Int} : modB n = true ↔ -1000000000 ≤ n ∧ n ≤ 1000000000 := inR_true
theorem isModerate_any (n : Int) (w : World) : Calls Try.prog 61 #[.int .i64 n] w fun e w' => e = .returned (.bool (modB n)) ∧ w = w' := by
  go_enter Try.func61, Try.ntmps61
  go_wp2_with (go_at_call 67; refine (within_any _ _ _ _).mono ?_; rintro e w' ⟨rfl, rfl⟩)
  go_ret
  exact ⟨rfl, rfl⟩
theorem l26Num_any (n : Int) (w : World) : Calls Try.prog 58 #[.int .i64 n] w fun e w' => e = .returned (.bool (modB n)) ∧ w = w' := by
  go_enter Try.func58, Try.ntmps58
  go_wp2_with (go_at_call 63; refine (l00In_any _ _ _ _).mono ?_; rintro e w' ⟨rfl, rfl⟩)
  go_ret
  exact ⟨rfl, rfl⟩

theorem tmod_bd1 {c g : Int} (hg : 0 < g) (h1 : -1000000000 ≤ c) (h2 : c ≤ 1000000000) : -1000000000 ≤ c.tmod g ∧ c.tmod g ≤ 1000000000 := by
  rcases Int.lt_or_le c 0 with h | h
  · have e1 : c.tmod g = -((-c) % g) := by
      rw [← Int.tmod_eq_emod_of_nonneg (by omega), Int.neg_tmod]; omega
    have a1 := Int.emod_nonneg (-c) (b := g) (by omega)
    have a2 : (-c) % g ≤ -c := by
      have h3 := Int.mul_ediv_add_emod (-c) g
      have h4 := Int.mul_nonneg (show 0 ≤ g by omega) (Int.ediv_nonneg (show 0 ≤ -c by omega) (show 0 ≤ g by omega))
      omega
    omega
  · rw [Int.tmod_eq_emod_of_nonneg h]
    have a1 := Int.emod_nonneg c (b := g) (by omega)
    have a2 : c % g ≤ c := by
      have h3 := Int.mul_ediv_add_emod c g
      have h4 := Int.mul_nonneg (show 0 ≤ g by omega) (Int.ediv_nonneg (show 0 ≤ c by omega) (show 0 ≤ g by omega))
      omega
    omega
/-- ProveLinear: the code and the numbers. -/
def linC (a b c : Int) : Int := if (modB a && modB b && modB c) = true then (if Int.gcd a b = 0 ∨ c % (Int.gcd a b : Int) = 0 then 6 else 0) else 2
def linK (a b c : Int) : Int := if linC a b c = 0 then 3 else 0
def linX (a b c : Int) : List Int := if linC a b c = 0 then [a, b, c, Int.gcd a b] else []

theorem cert_nil (w : World) : Wr (Value.int .i64) w w.heap.size none ([] : List Int) := fun h => absurd h (by simp)

theorem iProveLinear_any_bad (a b c : Int) (w : World) (h : (modB a && modB b && modB c) = false) :
    Calls Try.prog 16 #[.int .i64 a, .int .i64 b, .int .i64 c] w (RetCertC w (linK a b c) (linX a b c) (linC a b c)) := by
  have e1 : linC a b c = 2 := by simp [linC, h]
  have e2 : linK a b c = 0 := by simp [linK, e1]
  have e3 : linX a b c = [] := by simp [linX, e1]
  rw [e1, e2, e3]
  clear e1 e2 e3
  cases ha : modB a
  · go_enter Try.func16, Try.ntmps16
    go_wp2_with (go_at_call 61; refine (isModerate_any _ _).mono ?_; rintro e w' ⟨rfl, rfl⟩)
    exact bodyPost_ret (v := .tuple #[certV 0 none 0 0, .int .i64 2]) (by simp [results, Try.results16, go_sem]; done) rfl ⟨none, 0, rfl, fun h => absurd h (by simp), ext_alloc (Below.refl _ _) _⟩
  · cases hb : modB b
    · go_enter Try.func16, Try.ntmps16
      go_wp2_with (go_at_call 61; refine (isModerate_any _ _).mono ?_; rintro e w' ⟨rfl, rfl⟩)
      exact bodyPost_ret (v := .tuple #[certV 0 none 0 0, .int .i64 2]) (by simp [results, Try.results16, go_sem]; done) rfl ⟨none, 0, rfl, fun h => absurd h (by simp), ext_alloc (Below.refl _ _) _⟩
    · rw [ha, hb] at h
      have hc : modB c = false := by simpa using h
      clear h
      go_enter Try.func16, Try.ntmps16
      go_wp2_with (go_at_call 61; refine (isModerate_any _ _).mono ?_; rintro e w' ⟨rfl, rfl⟩)
      exact bodyPost_ret (v := .tuple #[certV 0 none 0 0, .int .i64 2]) (by simp [results, Try.results16, go_sem]; done) rfl ⟨none, 0, rfl, fun h => absurd h (by simp), ext_alloc (Below.refl _ _) _⟩
theorem sProveLinear_any_bad (a b c : Int) (w : World) (h : (modB a && modB b && modB c) = false) :
    Calls Try.prog 15 #[.int .i64 a, .int .i64 b, .int .i64 c] w (RetCertC w (linK a b c) (linX a b c) (linC a b c)) := by
  have e1 : linC a b c = 2 := by simp [linC, h]
  have e2 : linK a b c = 0 := by simp [linK, e1]
  have e3 : linX a b c = [] := by simp [linX, e1]
  rw [e1, e2, e3]
  clear e1 e2 e3
  cases ha : modB a
  · go_enter Try.func15, Try.ntmps15
    go_wp2_with (go_at_call 58; refine (l26Num_any _ _).mono ?_; rintro e w' ⟨rfl, rfl⟩)
    exact bodyPost_ret (v := .tuple #[certV 0 none 0 0, .int .i64 2]) (by simp [results, Try.results15, go_sem]; done) rfl ⟨none, 0, rfl, fun h => absurd h (by simp), ext_alloc (Below.refl _ _) _⟩
  · cases hb : modB b
    · go_enter Try.func15, Try.ntmps15
      go_wp2_with (go_at_call 58; refine (l26Num_any _ _).mono ?_; rintro e w' ⟨rfl, rfl⟩)
      exact bodyPost_ret (v := .tuple #[certV 0 none 0 0, .int .i64 2]) (by simp [results, Try.results15, go_sem]; done) rfl ⟨none, 0, rfl, fun h => absurd h (by simp), ext_alloc (Below.refl _ _) _⟩
    · rw [ha, hb] at h
      have hc : modB c = false := by simpa using h
      clear h
      go_enter Try.func15, Try.ntmps15
      go_wp2_with (go_at_call 58; refine (l26Num_any _ _).mono ?_; rintro e w' ⟨rfl, rfl⟩)
      exact bodyPost_ret (v := .tuple #[certV 0 none 0 0, .int .i64 2]) (by simp [results, Try.results15, go_sem]; done) rfl ⟨none, 0, rfl, fun h => absurd h (by simp), ext_alloc (Below.refl _ _) _⟩

theorem set_alloc {w : World} {b : Nat} {x y : Value} (hb : b < w.heap.size) (h0 : w.cell? ⟨b, 0, none⟩ = some x) (h1 : w.cell? ⟨b, 1, none⟩ = some y) :
    (∀ u v o, (((w.setCell ⟨b, 0, none⟩ u).setCell ⟨b, 1, none⟩ v).alloc o).cell? ⟨b, 0, none⟩ = some u) ∧ (∀ u v o, (((w.setCell ⟨b, 0, none⟩ u).setCell ⟨b, 1, none⟩ v).alloc o).cell? ⟨b, 1, none⟩ = some v) := by
  obtain ⟨s0, s1⟩ := set_two h0 h1
  refine ⟨fun u v o => ?_, fun u v o => ?_⟩
  · refine (World.cell?_alloc_lt _ _ _ (by simpa using hb)).trans ?_
    exact (World.cell?_setCell_other _ ⟨b, 1, none⟩ ⟨b, 0, none⟩ _ (by simp)).trans (s0 u)
  · exact (World.cell?_alloc_lt _ _ _ (by simpa using hb)).trans (s1 u v)

/-- A new slice of integers. -/
theorem Wr.lit' {xs : List Int} {C : Array Value} {E : TypeId} {g : Nat} (w : World) (hg : g = w.heap.size) (h : C.toList = xs.map (Value.int .i64)) : Wr (Value.int .i64) (w.alloc (.cells C E)) g (some ⟨g, 0, none⟩) xs := by
  subst hg
  exact fun _ => ⟨w.heap.size, 0, rfl, Nat.le_refl _, by simp, fun j x hx => by
    rw [Nat.zero_add, cell_one, ← Array.getElem?_toList, h, List.getElem?_map, hx]; rfl, fun j => World.frozen?_alloc_at _ _ _ _ rfl⟩

set_option maxHeartbeats 1000000 in
theorem iProveLinear_any (a b c : Int) (w : World) :
    Calls Try.prog 16 #[.int .i64 a, .int .i64 b, .int .i64 c] w (RetCertC w (linK a b c) (linX a b c) (linC a b c)) := by
  cases hm : (modB a && modB b && modB c)
  · exact iProveLinear_any_bad a b c w hm
  obtain ⟨⟨ha, hb⟩, hc⟩ : (modB a = true ∧ modB b = true) ∧ modB c = true := by simpa using hm
  obtain ⟨a1, a2⟩ := modB_true.1 ha
  obtain ⟨b1, b2⟩ := modB_true.1 hb
  obtain ⟨c1, c2⟩ := modB_true.1 hc
  have HG : Hid (∀ W, Calls Try.prog 62 #[.int .i64 a, .int .i64 b] W fun e w' => e = .returned (.int .i64 (Int.gcd a b : Int)) ∧ Below W.heap.size W w') := fun W => gcd_any a b W (by omega) (by omega) (by omega) (by omega)
  by_cases h0 : Int.gcd a b = 0 ∨ c % (Int.gcd a b : Int) = 0
  · have e1 : linC a b c = 6 := by unfold linC; rw [if_pos hm, if_pos h0]
    have e2 : linK a b c = 0 := by simp [linK, e1]
    have e3 : linX a b c = [] := by simp [linX, e1]
    rw [e1, e2, e3]
    clear e1 e2 e3
    obtain ⟨g, hg⟩ : ∃ g : Nat, Int.gcd a b = g := ⟨_, rfl⟩
    rw [hg] at HG h0
    clear hg
    by_cases hg0 : g = 0
    · subst hg0
      clear h0 hm
      go_enter Try.func16, Try.ntmps16
      go_wp2_with (go_at_call 61; refine (isModerate_any _ _).mono ?_; rintro e w' ⟨rfl, rfl⟩)
      refine (HG.out _).mono ?_
      rintro e w1 ⟨rfl, hb1⟩
      have hz1 : w.heap.size < w1.heap.size := by have := hb1.size; simp at this; omega
      have m0 : w1.cell? ⟨w.heap.size, 0, none⟩ = some (.int .i64 0) := (hb1.cell (p := ⟨w.heap.size, 0, none⟩) (by simp)).trans (cell_one _ _ _ _)
      have m1 : w1.cell? ⟨w.heap.size, 1, none⟩ = some (.slice none 0 0) := (hb1.cell (p := ⟨w.heap.size, 1, none⟩) (by simp)).trans (cell_one _ _ _ _)
      obtain ⟨s0, s1⟩ := set_two m0 m1
      obtain ⟨hc1, hf1⟩ := bcell hb1
      go_wp2
      exact bodyPost_ret (v := .tuple #[certV 0 none 0 0, .int .i64 6]) (by simp [results, Try.results16, go_sem, s0, s1]; done) rfl ⟨none, 0, rfl, fun h => absurd h (by simp), ext_set (ext_set (ext_trans (ext_alloc (Below.refl _ _) _) hb1) (Nat.le_refl _) _) (Nat.le_refl _) _⟩
    · have hgp : 0 < (g : Int) := by omega
      have hg1 : ((g : Int) == 0) = false := by simp; omega
      have h1 : c % (g : Int) = 0 := by rcases h0 with h | h; exact absurd h hg0; exact h
      have ht : c.tmod (g : Int) = 0 := Int.tmod_eq_zero_of_dvd (Int.dvd_of_emod_eq_zero h1)
      clear h0 hm h1
      go_enter Try.func16, Try.ntmps16
      go_wp2_with (go_at_call 61; refine (isModerate_any _ _).mono ?_; rintro e w' ⟨rfl, rfl⟩)
      refine (HG.out _).mono ?_
      rintro e w1 ⟨rfl, hb1⟩
      have hz1 : w.heap.size < w1.heap.size := by have := hb1.size; simp at this; omega
      have m0 : w1.cell? ⟨w.heap.size, 0, none⟩ = some (.int .i64 0) := (hb1.cell (p := ⟨w.heap.size, 0, none⟩) (by simp)).trans (cell_one _ _ _ _)
      have m1 : w1.cell? ⟨w.heap.size, 1, none⟩ = some (.slice none 0 0) := (hb1.cell (p := ⟨w.heap.size, 1, none⟩) (by simp)).trans (cell_one _ _ _ _)
      obtain ⟨s0, s1⟩ := set_two m0 m1
      obtain ⟨hc1, hf1⟩ := bcell hb1
      go_wp2
      exact bodyPost_ret (v := .tuple #[certV 0 none 0 0, .int .i64 6]) (by simp [results, Try.results16, go_sem, s0, s1]; done) rfl ⟨none, 0, rfl, fun h => absurd h (by simp), ext_set (ext_set (ext_trans (ext_alloc (Below.refl _ _) _) hb1) (Nat.le_refl _) _) (Nat.le_refl _) _⟩
  · have e1 : linC a b c = 0 := by unfold linC; rw [if_pos hm, if_neg h0]
    have e2 : linK a b c = 3 := by simp [linK, e1]
    have e3 : linX a b c = [a, b, c, Int.gcd a b] := by simp [linX, e1]
    rw [e1, e2, e3]
    clear e1 e2 e3
    obtain ⟨g, hg⟩ : ∃ g : Nat, Int.gcd a b = g := ⟨_, rfl⟩
    rw [hg] at HG h0 ⊢
    clear hg
    have hg0 : g ≠ 0 := fun h => h0 (.inl h)
    have h1 : ¬ c % (g : Int) = 0 := fun h => h0 (.inr h)
    have hgp : 0 < (g : Int) := by omega
    have hg1 : ((g : Int) == 0) = false := by simp; omega
    obtain ⟨r1, r2⟩ := tmod_bd1 (c := c) hgp (by omega) (by omega)
    have ht0 : c.tmod (g : Int) ≠ 0 := fun h => h1 (Int.emod_eq_zero_of_dvd (Int.dvd_of_tmod_eq_zero h))
    generalize hr : c.tmod (g : Int) = r at r1 r2 ht0
    have hr0 : (r == 0) = false := by simpa using ht0
    have hrw : IntKind.i64.wrap r = r := IntWalk.i64_in _ (by omega)
    clear h0 hm h1 ht0
    go_enter Try.func16, Try.ntmps16
    go_wp2_with (go_at_call 61; refine (isModerate_any _ _).mono ?_; rintro e w' ⟨rfl, rfl⟩)
    refine (HG.out _).mono ?_
    rintro e w1 ⟨rfl, hb1⟩
    obtain ⟨hc1, hf1⟩ := bcell hb1
    have hz1 : w.heap.size < w1.heap.size := by have := hb1.size; simp at this; omega
    have m0 : w1.cell? ⟨w.heap.size, 0, none⟩ = some (.int .i64 0) := (hc1 _ _ (by simp)).trans (cell_one _ _ _ _)
    have m1 : w1.cell? ⟨w.heap.size, 1, none⟩ = some (.slice none 0 0) := (hc1 _ _ (by simp)).trans (cell_one _ _ _ _)
    obtain ⟨s0, s1⟩ := set_alloc hz1 m0 m1
    go_wp2
    refine bodyPost_ret (v := .tuple #[certV 3 (some ⟨w1.heap.size, 0, none⟩) 4 4, .int .i64 0]) (by simp [results, Try.results16, go_sem, s0, s1]; done) rfl ⟨_, _, rfl, ?_, ?_⟩
    · exact (Wr.lit' _ (xs := [a, b, c, (g : Int)]) (by simp) rfl).more (by omega)
    · exact ext_alloc (ext_set (ext_set (ext_trans (ext_alloc (Below.refl _ _) _) hb1) (Nat.le_refl _) _) (Nat.le_refl _) _) _
set_option maxHeartbeats 1000000 in
theorem sProveLinear_any (a b c : Int) (w : World) :
    Calls Try.prog 15 #[.int .i64 a, .int .i64 b, .int .i64 c] w (RetCertC w (linK a b c) (linX a b c) (linC a b c)) := by
  cases hm : (modB a && modB b && modB c)
  · exact sProveLinear_any_bad a b c w hm
  obtain ⟨⟨ha, hb⟩, hc⟩ : (modB a = true ∧ modB b = true) ∧ modB c = true := by simpa using hm
  obtain ⟨a1, a2⟩ := modB_true.1 ha
  obtain ⟨b1, b2⟩ := modB_true.1 hb
  obtain ⟨c1, c2⟩ := modB_true.1 hc
  have HG : Hid (∀ W, Calls Try.prog 59 #[.int .i64 (a.natAbs : Int), .int .i64 (b.natAbs : Int)] W fun e w' => e = .returned (.int .i64 (Int.gcd a b : Int)) ∧ Below W.heap.size W w') := fun W => (l02Gcd_any a.natAbs b.natAbs W (by omega) (by omega)).mono (fun e w' ⟨he, hw⟩ => ⟨by rw [he]; simp [Int.gcd], hw ▸ Below.refl _ _⟩)
  by_cases h0 : Int.gcd a b = 0 ∨ c % (Int.gcd a b : Int) = 0
  · have e1 : linC a b c = 6 := by unfold linC; rw [if_pos hm, if_pos h0]
    have e2 : linK a b c = 0 := by simp [linK, e1]
    have e3 : linX a b c = [] := by simp [linX, e1]
    rw [e1, e2, e3]
    clear e1 e2 e3
    obtain ⟨g, hg⟩ : ∃ g : Nat, Int.gcd a b = g := ⟨_, rfl⟩
    rw [hg] at HG h0
    clear hg
    by_cases hg0 : g = 0
    · subst hg0
      clear h0 hm
      go_enter Try.func15, Try.ntmps15
      go_wp2_with (first | (go_at_call 58; refine (l26Num_any _ _).mono ?_; rintro e w' ⟨rfl, rfl⟩) | (go_at_call 60; refine (l02Size_any _ _ (by omega) (by omega)).mono ?_; rintro e w' ⟨rfl, rfl⟩))
      refine (HG.out _).mono ?_
      rintro e w1 ⟨rfl, hb1⟩
      have hz1 : w.heap.size < w1.heap.size := by have := hb1.size; simp at this; omega
      have m0 : w1.cell? ⟨w.heap.size, 0, none⟩ = some (.int .i64 0) := (hb1.cell (p := ⟨w.heap.size, 0, none⟩) (by simp)).trans (cell_one _ _ _ _)
      have m1 : w1.cell? ⟨w.heap.size, 1, none⟩ = some (.slice none 0 0) := (hb1.cell (p := ⟨w.heap.size, 1, none⟩) (by simp)).trans (cell_one _ _ _ _)
      obtain ⟨s0, s1⟩ := set_two m0 m1
      obtain ⟨hc1, hf1⟩ := bcell hb1
      go_wp2
      exact bodyPost_ret (v := .tuple #[certV 0 none 0 0, .int .i64 6]) (by simp [results, Try.results15, go_sem, s0, s1]; done) rfl ⟨none, 0, rfl, fun h => absurd h (by simp), ext_set (ext_set (ext_trans (ext_alloc (Below.refl _ _) _) hb1) (Nat.le_refl _) _) (Nat.le_refl _) _⟩
    · have hgp : 0 < (g : Int) := by omega
      have hg1 : ((g : Int) == 0) = false := by simp; omega
      have h1 : c % (g : Int) = 0 := by rcases h0 with h | h; exact absurd h hg0; exact h
      have ht : c.tmod (g : Int) = 0 := Int.tmod_eq_zero_of_dvd (Int.dvd_of_emod_eq_zero h1)
      clear h0 hm h1
      go_enter Try.func15, Try.ntmps15
      go_wp2_with (first | (go_at_call 58; refine (l26Num_any _ _).mono ?_; rintro e w' ⟨rfl, rfl⟩) | (go_at_call 60; refine (l02Size_any _ _ (by omega) (by omega)).mono ?_; rintro e w' ⟨rfl, rfl⟩))
      refine (HG.out _).mono ?_
      rintro e w1 ⟨rfl, hb1⟩
      have hz1 : w.heap.size < w1.heap.size := by have := hb1.size; simp at this; omega
      have m0 : w1.cell? ⟨w.heap.size, 0, none⟩ = some (.int .i64 0) := (hb1.cell (p := ⟨w.heap.size, 0, none⟩) (by simp)).trans (cell_one _ _ _ _)
      have m1 : w1.cell? ⟨w.heap.size, 1, none⟩ = some (.slice none 0 0) := (hb1.cell (p := ⟨w.heap.size, 1, none⟩) (by simp)).trans (cell_one _ _ _ _)
      obtain ⟨s0, s1⟩ := set_two m0 m1
      obtain ⟨hc1, hf1⟩ := bcell hb1
      go_wp2
      exact bodyPost_ret (v := .tuple #[certV 0 none 0 0, .int .i64 6]) (by simp [results, Try.results15, go_sem, s0, s1]; done) rfl ⟨none, 0, rfl, fun h => absurd h (by simp), ext_set (ext_set (ext_trans (ext_alloc (Below.refl _ _) _) hb1) (Nat.le_refl _) _) (Nat.le_refl _) _⟩
  · have e1 : linC a b c = 0 := by unfold linC; rw [if_pos hm, if_neg h0]
    have e2 : linK a b c = 3 := by simp [linK, e1]
    have e3 : linX a b c = [a, b, c, Int.gcd a b] := by simp [linX, e1]
    rw [e1, e2, e3]
    clear e1 e2 e3
    obtain ⟨g, hg⟩ : ∃ g : Nat, Int.gcd a b = g := ⟨_, rfl⟩
    rw [hg] at HG h0 ⊢
    clear hg
    have hg0 : g ≠ 0 := fun h => h0 (.inl h)
    have h1 : ¬ c % (g : Int) = 0 := fun h => h0 (.inr h)
    have hgp : 0 < (g : Int) := by omega
    have hg1 : ((g : Int) == 0) = false := by simp; omega
    obtain ⟨r1, r2⟩ := tmod_bd1 (c := c) hgp (by omega) (by omega)
    have ht0 : c.tmod (g : Int) ≠ 0 := fun h => h1 (Int.emod_eq_zero_of_dvd (Int.dvd_of_tmod_eq_zero h))
    generalize hr : c.tmod (g : Int) = r at r1 r2 ht0
    have hr0 : (r == 0) = false := by simpa using ht0
    have hrw : IntKind.i64.wrap r = r := IntWalk.i64_in _ (by omega)
    clear h0 hm h1 ht0
    go_enter Try.func15, Try.ntmps15
    go_wp2_with (first | (go_at_call 58; refine (l26Num_any _ _).mono ?_; rintro e w' ⟨rfl, rfl⟩) | (go_at_call 60; refine (l02Size_any _ _ (by omega) (by omega)).mono ?_; rintro e w' ⟨rfl, rfl⟩))
    refine (HG.out _).mono ?_
    rintro e w1 ⟨rfl, hb1⟩
    obtain ⟨hc1, hf1⟩ := bcell hb1
    have hz1 : w.heap.size < w1.heap.size := by have := hb1.size; simp at this; omega
    have m0 : w1.cell? ⟨w.heap.size, 0, none⟩ = some (.int .i64 0) := (hc1 _ _ (by simp)).trans (cell_one _ _ _ _)
    have m1 : w1.cell? ⟨w.heap.size, 1, none⟩ = some (.slice none 0 0) := (hc1 _ _ (by simp)).trans (cell_one _ _ _ _)
    obtain ⟨s0, s1⟩ := set_alloc hz1 m0 m1
    go_wp2
    refine bodyPost_ret (v := .tuple #[certV 3 (some ⟨w1.heap.size, 0, none⟩) 4 4, .int .i64 0]) (by simp [results, Try.results15, go_sem, s0, s1]; done) rfl ⟨_, _, rfl, ?_, ?_⟩
    · exact (Wr.lit' _ (xs := [a, b, c, (g : Int)]) (by simp) rfl).more (by omega)
    · exact ext_alloc (ext_set (ext_set (ext_trans (ext_alloc (Below.refl _ _) _) hb1) (Nat.le_refl _) _) (Nat.le_refl _) _) _
end Go.Proofs.Ytepbjdjhniidaaa
