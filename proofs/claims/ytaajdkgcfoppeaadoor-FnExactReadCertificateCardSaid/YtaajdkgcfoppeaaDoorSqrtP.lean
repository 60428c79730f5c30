/- The square root of a float: its whole part is at least 0 and not great. Plain facts on Ieee's words. No condition but those that each theorem names. -/
import Derived.Laws.FloatArith
namespace Go.Proofs.YtaajdkgcfoppeaaDoor
open Ieee

theorem cut_even_le (neg : Bool) (n drop : Nat) : Toward.even.cut neg n drop ≤ n / (1 <<< min drop (n.log2 + 2)) + 1 := by
  unfold Toward.cut
  simp only
  have : ∀ b : Bool, b.toNat ≤ 1 := by intro b; cases b <;> decide
  exact Nat.add_le_add_left (this _) _
theorem cut_even_ge (neg : Bool) (n drop : Nat) : n / (1 <<< min drop (n.log2 + 2)) ≤ Toward.even.cut neg n drop := by
  unfold Toward.cut
  simp only
  exact Nat.le_add_right _ _

theorem log2_pos {m : Nat} (h : 0 < m) : 2 ^ m.log2 ≤ m ∧ m < 2 ^ (m.log2 + 1) := ⟨Nat.log2_self_le (by omega), Nat.lt_log2_self⟩

/-- The kept digits of a number are 53 binary digits, or 2^53. -/
theorem kept_bd {mag : Nat} (hm : 0 < mag) (place last : Int) (hl : last = place + mag.log2 - 52) :
    2 ^ 52 ≤ Toward.even.cut false (mag <<< (place - last).toNat) (last - place).toNat ∧ Toward.even.cut false (mag <<< (place - last).toNat) (last - place).toNat ≤ 2 ^ 53 := by
  obtain ⟨h1, h2⟩ := log2_pos hm
  rcases Nat.lt_or_ge 52 mag.log2 with h | h
  · -- digits are dropped
    have e1 : (place - last).toNat = 0 := by omega
    have e2 : (last - place).toNat = mag.log2 - 52 := by omega
    rw [e1, e2, Nat.shiftLeft_zero]
    have e3 : min (mag.log2 - 52) (mag.log2 + 2) = mag.log2 - 52 := by omega
    have l := cut_even_le false mag (mag.log2 - 52)
    have g := cut_even_ge false mag (mag.log2 - 52)
    rw [e3, Nat.one_shiftLeft] at l g
    have p1 : 2 ^ mag.log2 = 2 ^ 52 * 2 ^ (mag.log2 - 52) := by rw [← Nat.pow_add]; congr 1; omega
    have p2 : 2 ^ (mag.log2 + 1) = 2 ^ 53 * 2 ^ (mag.log2 - 52) := by rw [← Nat.pow_add]; congr 1; omega
    have hp : 0 < 2 ^ (mag.log2 - 52) := Nat.pow_pos (by omega)
    have q1 : 2 ^ 52 ≤ mag / 2 ^ (mag.log2 - 52) := by rw [Nat.le_div_iff_mul_le hp]; omega
    have q2 : mag / 2 ^ (mag.log2 - 52) < 2 ^ 53 := by rw [Nat.div_lt_iff_lt_mul hp]; omega
    omega
  · have e1 : (place - last).toNat = 52 - mag.log2 := by omega
    have e2 : (last - place).toNat = 0 := by omega
    rw [e1, e2]
    have hs : mag <<< (52 - mag.log2) = mag * 2 ^ (52 - mag.log2) := Nat.shiftLeft_eq _ _
    have p1 : 2 ^ mag.log2 * 2 ^ (52 - mag.log2) = 2 ^ 52 := by rw [← Nat.pow_add]; congr 1; omega
    have p2 : 2 ^ (mag.log2 + 1) * 2 ^ (52 - mag.log2) = 2 ^ 53 := by rw [← Nat.pow_add]; congr 1; omega
    have hp : 0 < 2 ^ (52 - mag.log2) := Nat.pow_pos (by omega)
    have q1 : 2 ^ mag.log2 * 2 ^ (52 - mag.log2) ≤ mag * 2 ^ (52 - mag.log2) := Nat.mul_le_mul_right _ h1
    have q2 : mag * 2 ^ (52 - mag.log2) < 2 ^ (mag.log2 + 1) * 2 ^ (52 - mag.log2) := Nat.mul_lt_mul_of_pos_right h2 hp
    have l := cut_even_le false (mag <<< (52 - mag.log2)) 0
    have g := cut_even_ge false (mag <<< (52 - mag.log2)) 0
    simp only [Nat.zero_le, Nat.min_eq_left, Nat.shiftLeft_zero, Nat.div_one] at l g
    rw [hs] at l g ⊢
    omega

theorem kept_bd' {mag : Nat} (hm : 0 < mag) (place last : Int) (hl : last = place + mag.log2 - 52) :
    double.binade ≤ Toward.even.cut false (mag <<< (place - last).toNat) (last - place).toNat ∧ Toward.even.cut false (mag <<< (place - last).toNat) (last - place).toNat ≤ 2 * double.binade := by
  obtain ⟨h1, h2⟩ := kept_bd hm place last hl
  have e : double.binade = 2 ^ 52 := rfl
  rw [e]
  exact ⟨h1, by omega⟩

theorem rung_facts (q kept B : Nat) (hB : 0 < B) (h1 : B ≤ kept) (h2 : kept ≤ 2 * B) (hq : q ≤ 2044) :
    (q * B + kept) / (2048 * B) = 0 ∧ (q * B + kept) % (2048 * B) = q * B + kept ∧ B ≤ q * B + kept ∧ q * B + kept < 2047 * B ∧
    (kept < 2 * B → (q * B + kept) % B = kept - B ∧ (q * B + kept) / B = q + 1) ∧ (kept = 2 * B → (q * B + kept) % B = 0 ∧ (q * B + kept) / B = q + 2) := by
  have a1 : q * B ≤ 2044 * B := Nat.mul_le_mul_right B hq
  have a2 : q * B + kept < 2047 * B := by omega
  have a3 : q * B + kept < 2048 * B := by omega
  refine ⟨Nat.div_eq_of_lt a3, Nat.mod_eq_of_lt a3, by omega, a2, fun h => ?_, fun h => ?_⟩
  · have e : q * B + kept = (kept - B) + (q + 1) * B := by rw [Nat.add_mul]; omega
    rw [e, Nat.add_mul_mod_self_right, Nat.add_mul_div_right _ _ hB, Nat.mod_eq_of_lt (by omega), Nat.div_eq_of_lt (by omega)]
    exact ⟨rfl, by omega⟩
  · have e : q * B + kept = 0 + (q + 2) * B := by rw [Nat.add_mul]; omega
    rw [e, Nat.add_mul_mod_self_right, Nat.add_mul_div_right _ _ hB, Nat.zero_mod, Nat.zero_div]
    exact ⟨rfl, by omega⟩

/-- What is written is read again: 53 digits at their place, of about the same size. -/
theorem read_nearest' {mag : Nat} (hm : 0 < mag) (place : Int) (lo : -1000 ≤ place + mag.log2) (hi : place + mag.log2 ≤ 900) :
    ∃ M : Nat, ∃ L : Int, double.read (double.nearest false mag place) = .number false M L ∧ double.binade ≤ M ∧ M < 2 * double.binade ∧ (L = place + mag.log2 - 52 ∨ (L = place + mag.log2 - 51 ∧ M = double.binade)) := by
  have hleast : double.leastPlace = -1074 := by decide
  have hinf : double.infRung = 2047 * double.binade := rfl
  have hsw : double.signWeight = 2048 * double.binade := rfl
  have hfb : ((double.fractionBits : Nat) : Int) = 52 := rfl
  have hBpos : 0 < double.binade := by decide
  obtain ⟨last, hlast⟩ : ∃ last : Int, last = place + mag.log2 - 52 := ⟨_, rfl⟩
  obtain ⟨k1, k2⟩ := kept_bd' hm place last hlast
  have hlm : max (place + (mag.log2 : Int) - 52) (-1074) = last := by omega
  obtain ⟨q, hq⟩ : ∃ q : Nat, (q : Int) = last + 1074 := ⟨(last + 1074).toNat, by omega⟩
  have eq : (last - -1074).toNat = q := by omega
  generalize hk : Toward.even.cut false (mag <<< (place - last).toNat) (last - place).toNat = kept at k1 k2
  have hnear : double.nearest false mag place = Format.word double false (min (q * double.binade + kept) (2047 * double.binade)) := by
    unfold Format.nearest
    rw [if_neg (by omega)]
    simp only [hleast, hfb, hlm, eq, hinf, hk]
  rw [hnear]
  unfold Format.read
  rw [hinf, hsw, hleast]
  generalize double.binade = B at *
  obtain ⟨f1, f2, f3, f4, f5, f6⟩ := rung_facts q kept B hBpos k1 k2 (by omega)
  have hw : Format.word double false (min (q * B + kept) (2047 * B)) = q * B + kept := by
    unfold Format.word
    simp only [Bool.false_eq_true, if_false]
    omega
  simp only [hw, f1, f2]
  rw [if_neg (by omega), if_pos f4]
  rcases Nat.lt_or_ge kept (2 * B) with h | h
  · obtain ⟨g1, g2⟩ := f5 h
    refine ⟨kept, last, ?_, k1, h, .inl hlast⟩
    rw [g1, g2]
    have e3 : B + (kept - B) = kept := by omega
    have e4 : -1074 + (((q + 1 - 1 : Nat)) : Int) = last := by omega
    rw [e3, e4]; rfl
  · obtain rfl : kept = 2 * B := by omega
    obtain ⟨g1, g2⟩ := f6 rfl
    refine ⟨B, last + 1, ?_, Nat.le_refl _, by omega, .inr ⟨by omega, rfl⟩⟩
    rw [g1, g2]
    have e4 : -1074 + (((q + 2 - 1 : Nat)) : Int) = last + 1 := by omega
    rw [e4]; rfl
theorem read_nearest {mag : Nat} (hm : 0 < mag) (place : Int) (lo : -1000 ≤ place + mag.log2) (hi : place + mag.log2 ≤ 900) :
    ∃ M : Nat, ∃ L : Int, double.read (double.nearest false mag place) = .number false M L ∧ 2 ^ 52 ≤ M ∧ M < 2 ^ 53 ∧ (L = place + mag.log2 - 52 ∨ (L = place + mag.log2 - 51 ∧ M = 2 ^ 52)) := by
  obtain ⟨M, L, h1, h2, h3, h4⟩ := read_nearest' hm place lo hi
  have e : double.binade = 2 ^ 52 := rfl
  rw [e] at h2 h3 h4
  exact ⟨M, L, h1, h2, by omega, h4⟩

theorem rootFrom_le (n : Nat) : ∀ (todo root : Nat), root * root ≤ n → Datum.rootFrom n todo root * Datum.rootFrom n todo root ≤ n
  | 0, root, h => by unfold Datum.rootFrom; exact h
  | todo + 1, root, h => by
    unfold Datum.rootFrom
    simp only
    split
    · rename_i h'; exact rootFrom_le n todo _ h'
    · exact rootFrom_le n todo root h

/-- A float of at most 53 digits: its root's whole part. -/
theorem sqrt_int {n : Nat} (hn : 0 < n) (hb : n < 2 ^ 53) :
    ∃ b r, double.sqrt (double.write (.number false n 0)) = some b ∧ Go.floatToIntVal .f64 b .i64 = some r ∧ 0 ≤ r ∧ r ≤ 2 ^ 30 := by
  obtain ⟨l1, l2⟩ := log2_pos hn
  have hlog : n.log2 ≤ 52 := by
    rcases Nat.lt_or_ge 52 n.log2 with h | h
    · have := Nat.pow_le_pow_right (n := 2) (by omega) (show 53 ≤ n.log2 by omega); omega
    · exact h
  obtain ⟨M, L, hread, m1, m2, hL⟩ := read_nearest hn 0 (by omega) (by omega)
  have hM0 : M ≠ 0 := by omega
  have hMl : M.log2 = 52 := by
    rw [Nat.log2_eq_iff hM0]; exact ⟨m1, m2⟩
  -- the root
  obtain ⟨more, hmore, hpar⟩ : ∃ more : Nat, more = 2 * 54 - M.log2 + ((L - (2 * 54 - M.log2 : Nat)) % 2).toNat ∧ more ≤ 57 ∧ 56 ≤ more ∧ (L - more) % 2 = 0 := ⟨_, rfl, by omega, by omega, by omega⟩
  obtain ⟨p1, p2, p3⟩ := hpar
  obtain ⟨N, hNd⟩ : ∃ N, N = M <<< more := ⟨_, rfl⟩
  obtain ⟨whole, hwd⟩ : ∃ x, x = Datum.rootFrom N (N.log2 / 2 + 1) 0 := ⟨_, rfl⟩
  have hroot : Datum.root 54 (.number false M L) = some (.number false (2 * whole + (whole * whole != N).toNat) ((L - more) / 2 - 1)) := by
    unfold Datum.root
    simp only [hM0, if_false, Bool.false_eq_true]
    rw [← hmore, ← hNd, ← hwd]
  have hw : whole * whole ≤ N := by rw [hwd]; exact rootFrom_le N _ 0 (Nat.zero_le _)
  have hN : N = M * 2 ^ more := by rw [hNd]; exact Nat.shiftLeft_eq _ _
  clear hNd hwd
  have hNpos : 0 < N := by rw [hN]; exact Nat.mul_pos (by omega) (Nat.pow_pos (by omega))
  have hwb : whole < 2 ^ 55 := by
    rcases Nat.lt_or_ge whole (2 ^ 55) with h | h
    · exact h
    · exfalso
      have a1 : 2 ^ 55 * 2 ^ 55 ≤ whole * whole := Nat.mul_le_mul h h
      have a2 : M * 2 ^ more < 2 ^ 53 * 2 ^ 57 := Nat.lt_of_lt_of_le (Nat.mul_lt_mul_of_pos_right m2 (Nat.pow_pos (by omega))) (Nat.mul_le_mul_left _ (Nat.pow_le_pow_right (by omega) p1))
      have a3 : (2 : Nat) ^ 53 * 2 ^ 57 = 2 ^ 55 * 2 ^ 55 := by decide
      omega
  obtain ⟨mag, hmag⟩ : ∃ mag, mag = 2 * whole + (whole * whole != N).toNat := ⟨_, rfl⟩
  have hmag0 : 0 < mag := by
    rcases Nat.eq_zero_or_pos whole with h | h
    · have : (whole * whole != N) = true := by rw [bne_iff_ne, h]; omega
      rw [hmag, this]; simp
    · omega
  have hmag1 : mag < 2 ^ 56 := by
    have : (whole * whole != N).toNat ≤ 1 := by cases (whole * whole != N) <;> decide
    omega
  have hlm : mag.log2 ≤ 55 := by
    rcases Nat.lt_or_ge 55 mag.log2 with h | h
    · have := (log2_pos hmag0).1
      have := Nat.pow_le_pow_right (n := 2) (by omega) (show 56 ≤ mag.log2 by omega)
      omega
    · exact h
  rw [← hmag] at hroot
  obtain ⟨M', L', hread', m1', m2', hL'⟩ := read_nearest hmag0 ((L - more) / 2 - 1) (by omega) (by omega)
  refine ⟨double.write (.number false mag ((L - more) / 2 - 1)), ((M' / (1 <<< min (-L').toNat 54) : Nat) : Int), ?_, ?_, Int.natCast_nonneg _, ?_⟩
  · show (Datum.root 54 (double.read (double.nearest false n 0))).map double.write = _
    rw [hread, hroot]
    rfl
  · unfold Go.floatToIntVal
    have hd : Go.FloatKind.decode .f64 (double.write (.number false mag ((L - more) / 2 - 1))) = .number false M' L' := hread'
    have hMl' : M'.log2 = 52 := by
      rw [Nat.log2_eq_iff (by omega)]; exact ⟨m1', m2'⟩
    have e1 : L'.toNat = 0 := by omega
    have hi : Datum.toInt .zero (.number false M' L') = some ((M' / (1 <<< min (-L').toNat 54) : Nat) : Int) := by
      unfold Datum.toInt Datum.integral Toward.cut
      simp only [e1, Nat.shiftLeft_zero, hMl', signed]
      simp
    rw [hd, hi]
    simp only
    have hle : M' / (1 <<< min (-L').toNat 54) ≤ M' := Nat.div_le_self _ _
    rw [if_pos]
    have q1 : Go.IntKind.min .i64 = -9223372036854775808 := by decide
    have q2 : Go.IntKind.max .i64 = 9223372036854775807 := by decide
    rw [q1, q2]
    generalize M' / (1 <<< min (-L').toNat 54) = z at hle
    constructor <;> omega
  · rw [Nat.one_shiftLeft]
    have hd : 25 ≤ min (-L').toNat 54 := by omega
    have h1 : M' / 2 ^ min (-L').toNat 54 ≤ M' / 2 ^ 25 := Nat.div_le_div_left (Nat.pow_le_pow_right (by omega) hd) (Nat.pow_pos (by omega))
    have h2 : M' / 2 ^ 25 < 2 ^ 28 := by rw [Nat.div_lt_iff_lt_mul (by decide)]; omega
    generalize M' / 2 ^ min (-L').toNat 54 = z at h1 ⊢
    generalize M' / 2 ^ 25 = y at h1 h2
    omega
end Go.Proofs.YtaajdkgcfoppeaaDoor
