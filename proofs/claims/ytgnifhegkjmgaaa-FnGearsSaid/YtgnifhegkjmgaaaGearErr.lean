/- GearError: both walks. No condition but those that each theorem names. -/
import Derived.Test.YtgnifhegkjmgaaaFracW
namespace Go.Proofs.Ytgnifhegkjmgaaa
open Go.RowKit Go.Sort

def gerrB (n d a b : Int) : Int := if fracOk n d = true then (if (inR a 1 1000 && inR b 1 1000) = true then 0 else 2) else 1
def gerrN (n d a b : Int) : Int := if gerrB n d a b = 0 then fullN (a * d - n * b) (b * d) else 0
def gerrD (n d a b : Int) : Int := if gerrB n d a b = 0 then fullD (a * d - n * b) (b * d) else 0
def gerrC (n d a b : Int) : Int := if gerrB n d a b = 0 then fullC (a * d - n * b) (b * d) else gerrB n d a b

set_option maxHeartbeats 1000000 in
theorem iGearError_any (n d a b : Int) (w : World) :
    Calls Try.prog 21 #[fracV n d, .int .i64 a, .int .i64 b] w fun e w' => e = .returned (.tuple #[fracV (gerrN n d a b) (gerrD n d a b), .int .i64 (gerrC n d a b)]) ∧ Below w.heap.size w w' := by
  cases h0 : fracOk n d
  · have e0 : gerrB n d a b = 1 := by simp [gerrB, h0]
    have e1 : gerrN n d a b = 0 := by simp [gerrN, e0]
    have e2 : gerrD n d a b = 0 := by simp [gerrD, e0]
    have e3 : gerrC n d a b = 1 := by simp [gerrC, e0]
    rw [e1, e2, e3]
    clear e0 e1 e2 e3
    unfold fracV
    go_enter Try.func21, Try.ntmps21
    go_wp2_with fail
    refine (ValidFraction_any n d _).mono ?_
    rintro e w1 ⟨rfl, hb1⟩
    obtain ⟨hc1, hf1⟩ := bcell hb1
    have hy1 := hb1.size
    (try simp at hy1)
    have hz1_0 : w.heap.size < w1.heap.size := by omega
    have hz1_1 : w.heap.size + 1 < w1.heap.size := by omega
    have m0 : w1.cell? ⟨w.heap.size + 1, 0, none⟩ = some (.int .i64 0) := by rw [hc1 _ _ (by simp), cell_two_snd]; rfl
    have m1 : w1.cell? ⟨w.heap.size + 1, 1, none⟩ = some (.int .i64 0) := by rw [hc1 _ _ (by simp), cell_two_snd]; rfl
    obtain ⟨s0, s1⟩ := set_two m0 m1
    go_wp2
    exact bodyPost_ret (v := .tuple #[fracV 0 0, .int .i64 1]) (by simp [results, Try.results21, go_sem, s0, s1]; done) rfl ⟨rfl, ext_set (ext_set (ext_trans (ext_alloc (ext_alloc (Below.refl _ _) _) _) hb1) (by simp) _) (by simp) _⟩
  · obtain ⟨f1, f2, f3, f4, f5⟩ := fracOk_true.1 h0
    clear f5
    cases ha : inR a 1 1000
    · have e0 : gerrB n d a b = 2 := by simp [gerrB, h0, ha]
      have e1 : gerrN n d a b = 0 := by simp [gerrN, e0]
      have e2 : gerrD n d a b = 0 := by simp [gerrD, e0]
      have e3 : gerrC n d a b = 2 := by simp [gerrC, e0]
      rw [e1, e2, e3]
      clear e0 e1 e2 e3
      unfold fracV
      go_enter Try.func21, Try.ntmps21
      go_wp2_with fail
      refine (ValidFraction_any n d _).mono ?_
      rintro e w1 ⟨rfl, hb1⟩
      obtain ⟨hc1, hf1⟩ := bcell hb1
      have hy1 := hb1.size
      (try simp at hy1)
      have hz1_0 : w.heap.size < w1.heap.size := by omega
      have hz1_1 : w.heap.size + 1 < w1.heap.size := by omega
      have m0 : w1.cell? ⟨w.heap.size + 1, 0, none⟩ = some (.int .i64 0) := by rw [hc1 _ _ (by simp), cell_two_snd]; rfl
      have m1 : w1.cell? ⟨w.heap.size + 1, 1, none⟩ = some (.int .i64 0) := by rw [hc1 _ _ (by simp), cell_two_snd]; rfl
      obtain ⟨s0, s1⟩ := set_two m0 m1
      go_wp2_with (go_at_call 77; refine (within_any _ _ _ _).mono ?_; rintro e w' ⟨rfl, rfl⟩)
      exact bodyPost_ret (v := .tuple #[fracV 0 0, .int .i64 2]) (by simp [results, Try.results21, go_sem, s0, s1]; done) rfl ⟨rfl, ext_set (ext_set (ext_trans (ext_alloc (ext_alloc (Below.refl _ _) _) _) hb1) (by simp) _) (by simp) _⟩
    · obtain ⟨a1, a2⟩ := inR_true.1 ha
      cases hbb : inR b 1 1000
      · have e0 : gerrB n d a b = 2 := by simp [gerrB, h0, ha, hbb]
        have e1 : gerrN n d a b = 0 := by simp [gerrN, e0]
        have e2 : gerrD n d a b = 0 := by simp [gerrD, e0]
        have e3 : gerrC n d a b = 2 := by simp [gerrC, e0]
        rw [e1, e2, e3]
        clear e0 e1 e2 e3
        unfold fracV
        go_enter Try.func21, Try.ntmps21
        go_wp2_with fail
        refine (ValidFraction_any n d _).mono ?_
        rintro e w1 ⟨rfl, hb1⟩
        obtain ⟨hc1, hf1⟩ := bcell hb1
        have hy1 := hb1.size
        (try simp at hy1)
        have hz1_0 : w.heap.size < w1.heap.size := by omega
        have hz1_1 : w.heap.size + 1 < w1.heap.size := by omega
        have m0 : w1.cell? ⟨w.heap.size + 1, 0, none⟩ = some (.int .i64 0) := by rw [hc1 _ _ (by simp), cell_two_snd]; rfl
        have m1 : w1.cell? ⟨w.heap.size + 1, 1, none⟩ = some (.int .i64 0) := by rw [hc1 _ _ (by simp), cell_two_snd]; rfl
        obtain ⟨s0, s1⟩ := set_two m0 m1
        go_wp2_with (go_at_call 77; refine (within_any _ _ _ _).mono ?_; rintro e w' ⟨rfl, rfl⟩)
        exact bodyPost_ret (v := .tuple #[fracV 0 0, .int .i64 2]) (by simp [results, Try.results21, go_sem, s0, s1]; done) rfl ⟨rfl, ext_set (ext_set (ext_trans (ext_alloc (ext_alloc (Below.refl _ _) _) _) hb1) (by simp) _) (by simp) _⟩
      · obtain ⟨b1, b2⟩ := inR_true.1 hbb
        have e0 : gerrB n d a b = 0 := by simp [gerrB, h0, ha, hbb]
        have e1 : gerrN n d a b = fullN (a * d - n * b) (b * d) := by simp [gerrN, e0]
        have e2 : gerrD n d a b = fullD (a * d - n * b) (b * d) := by simp [gerrD, e0]
        have e3 : gerrC n d a b = fullC (a * d - n * b) (b * d) := by simp [gerrC, e0]
        rw [e1, e2, e3]
        clear e0 e1 e2 e3
        have p1 : 0 ≤ a * d := Int.mul_nonneg (by omega) (by omega)
        have p2 : a * d ≤ 1000 * 1000000000 := Int.mul_le_mul a2 f2 (by omega) (by omega)
        have p3 : 1 ≤ b * d := Int.mul_pos (by omega) (by omega)
        have p4 : b * d ≤ 1000 * 1000000000 := Int.mul_le_mul b2 f2 (by omega) (by omega)
        have p5 : -(1000000000 * 1000) ≤ n * b ∧ n * b ≤ 1000000000 * 1000 := mul_bd (by omega) f4 (by omega) b2 f3 (by omega)
        obtain ⟨p5, p6⟩ := p5
        unfold fracV
        go_enter Try.func21, Try.ntmps21
        go_wp2_with fail
        refine (ValidFraction_any n d _).mono ?_
        rintro e w1 ⟨rfl, hb1⟩
        obtain ⟨hc1, hf1⟩ := bcell hb1
        have hy1 := hb1.size
        (try simp at hy1)
        have hz1_0 : w.heap.size < w1.heap.size := by omega
        have hz1_1 : w.heap.size + 1 < w1.heap.size := by omega
        go_wp2_with (first | (go_at_call 77; refine (within_any _ _ _ _).mono ?_; rintro e w' ⟨rfl, rfl⟩))
        refine (plainOf_any _ _ _ (by omega) (by omega) (by omega) (by omega) (by omega)).mono ?_
        rintro e w2 ⟨rfl, hb2⟩
        obtain ⟨hc2, hf2⟩ := bcell hb2
        have hy2 := hb2.size
        have hz2_0 : w.heap.size < w2.heap.size := by omega
        have hz2_1 : w.heap.size + 1 < w2.heap.size := by omega
        have m0 : w2.cell? ⟨w.heap.size + 1, 0, none⟩ = some (.int .i64 0) := by rw [hc2 _ _ hz1_1, hc1 _ _ (by simp), cell_two_snd]; rfl
        have m1 : w2.cell? ⟨w.heap.size + 1, 1, none⟩ = some (.int .i64 0) := by rw [hc2 _ _ hz1_1, hc1 _ _ (by simp), cell_two_snd]; rfl
        obtain ⟨s0, s1⟩ := set_two m0 m1
        go_wp2
        exact bodyPost_ret (v := .tuple #[fracV (fullN (a * d - n * b) (b * d)) (fullD (a * d - n * b) (b * d)), .int .i64 (fullC (a * d - n * b) (b * d))]) (by simp [results, Try.results21, go_sem, s0, s1]; done) rfl ⟨rfl, ext_set (ext_set (ext_trans (ext_trans (ext_alloc (ext_alloc (Below.refl _ _) _) _) hb1) hb2) (by simp) _) (by simp) _⟩
set_option maxHeartbeats 1000000 in
theorem sGearError_any (n d a b : Int) (w : World) :
    Calls Try.prog 22 #[fracV n d, .int .i64 a, .int .i64 b] w fun e w' => e = .returned (.tuple #[fracV (gerrN n d a b) (gerrD n d a b), .int .i64 (gerrC n d a b)]) ∧ Below w.heap.size w w' := by
  cases h0 : fracOk n d
  · have e0 : gerrB n d a b = 1 := by simp [gerrB, h0]
    have e1 : gerrN n d a b = 0 := by simp [gerrN, e0]
    have e2 : gerrD n d a b = 0 := by simp [gerrD, e0]
    have e3 : gerrC n d a b = 1 := by simp [gerrC, e0]
    rw [e1, e2, e3]
    clear e0 e1 e2 e3
    unfold fracV
    go_enter Try.func22, Try.ntmps22
    go_wp2_with fail
    refine (l02Ok_any n d _).mono ?_
    rintro e w1 ⟨rfl, hb1⟩
    obtain ⟨hc1, hf1⟩ := bcell hb1
    have hy1 := hb1.size
    (try simp at hy1)
    have hz1_0 : w.heap.size < w1.heap.size := by omega
    have hz1_1 : w.heap.size + 1 < w1.heap.size := by omega
    have m0 : w1.cell? ⟨w.heap.size + 1, 0, none⟩ = some (.int .i64 0) := by rw [hc1 _ _ (by simp), cell_two_snd]; rfl
    have m1 : w1.cell? ⟨w.heap.size + 1, 1, none⟩ = some (.int .i64 0) := by rw [hc1 _ _ (by simp), cell_two_snd]; rfl
    obtain ⟨s0, s1⟩ := set_two m0 m1
    go_wp2
    exact bodyPost_ret (v := .tuple #[fracV 0 0, .int .i64 1]) (by simp [results, Try.results22, go_sem, s0, s1]; done) rfl ⟨rfl, ext_set (ext_set (ext_trans (ext_alloc (ext_alloc (Below.refl _ _) _) _) hb1) (by simp) _) (by simp) _⟩
  · obtain ⟨f1, f2, f3, f4, f5⟩ := fracOk_true.1 h0
    clear f5
    cases ha : inR a 1 1000
    · have e0 : gerrB n d a b = 2 := by simp [gerrB, h0, ha]
      have e1 : gerrN n d a b = 0 := by simp [gerrN, e0]
      have e2 : gerrD n d a b = 0 := by simp [gerrD, e0]
      have e3 : gerrC n d a b = 2 := by simp [gerrC, e0]
      rw [e1, e2, e3]
      clear e0 e1 e2 e3
      unfold fracV
      go_enter Try.func22, Try.ntmps22
      go_wp2_with fail
      refine (l02Ok_any n d _).mono ?_
      rintro e w1 ⟨rfl, hb1⟩
      obtain ⟨hc1, hf1⟩ := bcell hb1
      have hy1 := hb1.size
      (try simp at hy1)
      have hz1_0 : w.heap.size < w1.heap.size := by omega
      have hz1_1 : w.heap.size + 1 < w1.heap.size := by omega
      have m0 : w1.cell? ⟨w.heap.size + 1, 0, none⟩ = some (.int .i64 0) := by rw [hc1 _ _ (by simp), cell_two_snd]; rfl
      have m1 : w1.cell? ⟨w.heap.size + 1, 1, none⟩ = some (.int .i64 0) := by rw [hc1 _ _ (by simp), cell_two_snd]; rfl
      obtain ⟨s0, s1⟩ := set_two m0 m1
      go_wp2_with (go_at_call 92; refine (l00In_any _ _ _ _).mono ?_; rintro e w' ⟨rfl, rfl⟩)
      exact bodyPost_ret (v := .tuple #[fracV 0 0, .int .i64 2]) (by simp [results, Try.results22, go_sem, s0, s1]; done) rfl ⟨rfl, ext_set (ext_set (ext_trans (ext_alloc (ext_alloc (Below.refl _ _) _) _) hb1) (by simp) _) (by simp) _⟩
    · obtain ⟨a1, a2⟩ := inR_true.1 ha
      cases hbb : inR b 1 1000
      · have e0 : gerrB n d a b = 2 := by simp [gerrB, h0, ha, hbb]
        have e1 : gerrN n d a b = 0 := by simp [gerrN, e0]
        have e2 : gerrD n d a b = 0 := by simp [gerrD, e0]
        have e3 : gerrC n d a b = 2 := by simp [gerrC, e0]
        rw [e1, e2, e3]
        clear e0 e1 e2 e3
        unfold fracV
        go_enter Try.func22, Try.ntmps22
        go_wp2_with fail
        refine (l02Ok_any n d _).mono ?_
        rintro e w1 ⟨rfl, hb1⟩
        obtain ⟨hc1, hf1⟩ := bcell hb1
        have hy1 := hb1.size
        (try simp at hy1)
        have hz1_0 : w.heap.size < w1.heap.size := by omega
        have hz1_1 : w.heap.size + 1 < w1.heap.size := by omega
        have m0 : w1.cell? ⟨w.heap.size + 1, 0, none⟩ = some (.int .i64 0) := by rw [hc1 _ _ (by simp), cell_two_snd]; rfl
        have m1 : w1.cell? ⟨w.heap.size + 1, 1, none⟩ = some (.int .i64 0) := by rw [hc1 _ _ (by simp), cell_two_snd]; rfl
        obtain ⟨s0, s1⟩ := set_two m0 m1
        go_wp2_with (go_at_call 92; refine (l00In_any _ _ _ _).mono ?_; rintro e w' ⟨rfl, rfl⟩)
        exact bodyPost_ret (v := .tuple #[fracV 0 0, .int .i64 2]) (by simp [results, Try.results22, go_sem, s0, s1]; done) rfl ⟨rfl, ext_set (ext_set (ext_trans (ext_alloc (ext_alloc (Below.refl _ _) _) _) hb1) (by simp) _) (by simp) _⟩
      · obtain ⟨b1, b2⟩ := inR_true.1 hbb
        have e0 : gerrB n d a b = 0 := by simp [gerrB, h0, ha, hbb]
        have e1 : gerrN n d a b = fullN (a * d - n * b) (b * d) := by simp [gerrN, e0]
        have e2 : gerrD n d a b = fullD (a * d - n * b) (b * d) := by simp [gerrD, e0]
        have e3 : gerrC n d a b = fullC (a * d - n * b) (b * d) := by simp [gerrC, e0]
        rw [e1, e2, e3]
        clear e0 e1 e2 e3
        have p1 : 0 ≤ a * d := Int.mul_nonneg (by omega) (by omega)
        have p2 : a * d ≤ 1000 * 1000000000 := Int.mul_le_mul a2 f2 (by omega) (by omega)
        have p3 : 1 ≤ b * d := Int.mul_pos (by omega) (by omega)
        have p4 : b * d ≤ 1000 * 1000000000 := Int.mul_le_mul b2 f2 (by omega) (by omega)
        have p5 : -(1000000000 * 1000) ≤ n * b ∧ n * b ≤ 1000000000 * 1000 := mul_bd (by omega) f4 (by omega) b2 f3 (by omega)
        obtain ⟨p5, p6⟩ := p5
        unfold fracV
        go_enter Try.func22, Try.ntmps22
        go_wp2_with fail
        refine (l02Ok_any n d _).mono ?_
        rintro e w1 ⟨rfl, hb1⟩
        obtain ⟨hc1, hf1⟩ := bcell hb1
        have hy1 := hb1.size
        (try simp at hy1)
        have hz1_0 : w.heap.size < w1.heap.size := by omega
        have hz1_1 : w.heap.size + 1 < w1.heap.size := by omega
        go_wp2_with (first | (go_at_call 92; refine (l00In_any _ _ _ _).mono ?_; rintro e w' ⟨rfl, rfl⟩))
        refine (l02Full_any _ _ _ (by omega) (by omega) (by omega) (by omega) (by omega)).mono ?_
        rintro e w2 ⟨rfl, hb2⟩
        obtain ⟨hc2, hf2⟩ := bcell hb2
        have hy2 := hb2.size
        have hz2_0 : w.heap.size < w2.heap.size := by omega
        have hz2_1 : w.heap.size + 1 < w2.heap.size := by omega
        have m0 : w2.cell? ⟨w.heap.size + 1, 0, none⟩ = some (.int .i64 0) := by rw [hc2 _ _ hz1_1, hc1 _ _ (by simp), cell_two_snd]; rfl
        have m1 : w2.cell? ⟨w.heap.size + 1, 1, none⟩ = some (.int .i64 0) := by rw [hc2 _ _ hz1_1, hc1 _ _ (by simp), cell_two_snd]; rfl
        obtain ⟨s0, s1⟩ := set_two m0 m1
        go_wp2
        exact bodyPost_ret (v := .tuple #[fracV (fullN (a * d - n * b) (b * d)) (fullD (a * d - n * b) (b * d)), .int .i64 (fullC (a * d - n * b) (b * d))]) (by simp [results, Try.results22, go_sem, s0, s1]; done) rfl ⟨rfl, ext_set (ext_set (ext_trans (ext_trans (ext_alloc (ext_alloc (Below.refl _ _) _) _) hb1) hb2) (by simp) _) (by simp) _⟩
end Go.Proofs.Ytgnifhegkjmgaaa
