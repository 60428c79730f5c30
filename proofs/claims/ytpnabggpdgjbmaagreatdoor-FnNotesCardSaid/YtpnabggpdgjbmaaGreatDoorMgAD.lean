/- Parts of the proof, merged: SqrtP RootW DrawRvW DrawSdW. No condition but those that each theorem names. -/
import Derived.Laws.FloatArith
import Derived.Test.YtpnabggpdgjbmaaGreatDoorMgAB
import Derived.Test.YtpnabggpdgjbmaaGreatDoorMgAC
import Derived.Deep.RegionHeld3
namespace Go.Proofs.YtpnabggpdgjbmaaGreatDoor
open Ieee
theorem cut_even_le (neg : Bool) (n drop : Nat) : Toward.even.cut neg n drop ≤ n / (1 <<< min drop (n.log2 + 2)) + 1 := by
  unfold Toward.cut
  simp only
  have : ∀ b : Bool, b.toNat ≤ 1 := by intro b; cases b <;> decide
  exact Nat.add_le_add_left (this _) _
theorem cut_even_ge (neg : Bool) (n drop : Nat) : n / (1 <<< min drop (n.log2 + 2)) ≤ Toward.even.cut neg n drop := by
  unfold Toward.cut
  simp only
  exact Nat.le_add_right _ _
theorem log2_pos {m : Nat} (h : 0 < m) : 2 ^ m.log2 ≤ m ∧ m < 2 ^ (m.log2 + 1) := ⟨Nat.log2_self_le (by omega), Nat.lt_log2_self⟩
/-- The kept digits of a number are 53 binary digits, or 2^53. -/
theorem kept_bd {mag : Nat} (hm : 0 < mag) (place last : Int) (hl : last = place + mag.log2 - 52) :
    2 ^ 52 ≤ Toward.even.cut false (mag <<< (place - last).toNat) (last - place).toNat ∧ Toward.even.cut false (mag <<< (place - last).toNat) (last - place).toNat ≤ 2 ^ 53 := by
  obtain ⟨h1, h2⟩ := log2_pos hm
  rcases Nat.lt_or_ge 52 mag.log2 with h | h
  · -- digits are dropped
    have e1 : (place - last).toNat = 0 := by omega
    have e2 : (last - place).toNat = mag.log2 - 52 := by omega
    rw [e1, e2, Nat.shiftLeft_zero]
    have e3 : min (mag.log2 - 52) (mag.log2 + 2) = mag.log2 - 52 := by omega
    have l := cut_even_le false mag (mag.log2 - 52)
    have g := cut_even_ge false mag (mag.log2 - 52)
    rw [e3, Nat.one_shiftLeft] at l g
    have p1 : 2 ^ mag.log2 = 2 ^ 52 * 2 ^ (mag.log2 - 52) := by rw [← Nat.pow_add]; congr 1; omega
    have p2 : 2 ^ (mag.log2 + 1) = 2 ^ 53 * 2 ^ (mag.log2 - 52) := by rw [← Nat.pow_add]; congr 1; omega
    have hp : 0 < 2 ^ (mag.log2 - 52) := Nat.pow_pos (by omega)
    have q1 : 2 ^ 52 ≤ mag / 2 ^ (mag.log2 - 52) := by rw [Nat.le_div_iff_mul_le hp]; omega
    have q2 : mag / 2 ^ (mag.log2 - 52) < 2 ^ 53 := by rw [Nat.div_lt_iff_lt_mul hp]; omega
    omega
  · have e1 : (place - last).toNat = 52 - mag.log2 := by omega
    have e2 : (last - place).toNat = 0 := by omega
    rw [e1, e2]
    have hs : mag <<< (52 - mag.log2) = mag * 2 ^ (52 - mag.log2) := Nat.shiftLeft_eq _ _
    have p1 : 2 ^ mag.log2 * 2 ^ (52 - mag.log2) = 2 ^ 52 := by rw [← Nat.pow_add]; congr 1; omega
    have p2 : 2 ^ (mag.log2 + 1) * 2 ^ (52 - mag.log2) = 2 ^ 53 := by rw [← Nat.pow_add]; congr 1; omega
    have hp : 0 < 2 ^ (52 - mag.log2) := Nat.pow_pos (by omega)
    have q1 : 2 ^ mag.log2 * 2 ^ (52 - mag.log2) ≤ mag * 2 ^ (52 - mag.log2) := Nat.mul_le_mul_right _ h1
    have q2 : mag * 2 ^ (52 - mag.log2) < 2 ^ (mag.log2 + 1) * 2 ^ (52 - mag.log2) := Nat.mul_lt_mul_of_pos_right h2 hp
    have l := cut_even_le false (mag <<< (52 - mag.log2)) 0
    have g := cut_even_ge false (mag <<< (52 - mag.log2)) 0
    simp only [Nat.zero_le, Nat.min_eq_left, Nat.shiftLeft_zero, Nat.div_one] at l g
    rw [hs] at l g ⊢
    omega
theorem kept_bd' {mag : Nat} (hm : 0 < mag) (place last : Int) (hl : last = place + mag.log2 - 52) :
    double.binade ≤ Toward.even.cut false (mag <<< (place - last).toNat) (last - place).toNat ∧ Toward.even.cut false (mag <<< (place - last).toNat) (last - place).toNat ≤ 2 * double.binade := by
  obtain ⟨h1, h2⟩ := kept_bd hm place last hl
  have e : double.binade = 2 ^ 52 := rfl
  rw [e]
  exact ⟨h1, by omega⟩
theorem rung_facts (q kept B : Nat) (hB : 0 < B) (h1 : B ≤ kept) (h2 : kept ≤ 2 * B) (hq : q ≤ 2044) :
    (q * B + kept) / (2048 * B) = 0 ∧ (q * B + kept) % (2048 * B) = q * B + kept ∧ B ≤ q * B + kept ∧ q * B + kept < 2047 * B ∧
    (kept < 2 * B → (q * B + kept) % B = kept - B ∧ (q * B + kept) / B = q + 1) ∧ (kept = 2 * B → (q * B + kept) % B = 0 ∧ (q * B + kept) / B = q + 2) := by
  have a1 : q * B ≤ 2044 * B := Nat.mul_le_mul_right B hq
  have a2 : q * B + kept < 2047 * B := by omega
  have a3 : q * B + kept < 2048 * B := by omega
  refine ⟨Nat.div_eq_of_lt a3, Nat.mod_eq_of_lt a3, by omega, a2, fun h => ?_, fun h => ?_⟩
  · have e : q * B + kept = (kept - B) + (q + 1) * B := by rw [Nat.add_mul]; omega
    rw [e, Nat.add_mul_mod_self_right, Nat.add_mul_div_right _ _ hB, Nat.mod_eq_of_lt (by omega), Nat.div_eq_of_lt (by omega)]
    exact ⟨rfl, by omega⟩
  · have e : q * B + kept = 0 + (q + 2) * B := by rw [Nat.add_mul]; omega
    rw [e, Nat.add_mul_mod_self_right, Nat.add_mul_div_right _ _ hB, Nat.zero_mod, Nat.zero_div]
    exact ⟨rfl, by omega⟩
/-- What is written is read again: 53 digits at their place, of about the same size. -/
theorem read_nearest' {mag : Nat} (hm : 0 < mag) (place : Int) (lo : -1000 ≤ place + mag.log2) (hi : place + mag.log2 ≤ 900) :
    ∃ M : Nat, ∃ L : Int, double.read (double.nearest false mag place) = .number false M L ∧ double.binade ≤ M ∧ M < 2 * double.binade ∧ (L = place + mag.log2 - 52 ∨ (L = place + mag.log2 - 51 ∧ M = double.binade)) := by
  have hleast : double.leastPlace = -1074 := by decide
  have hinf : double.infRung = 2047 * double.binade := rfl
  have hsw : double.signWeight = 2048 * double.binade := rfl
  have hfb : ((double.fractionBits : Nat) : Int) = 52 := rfl
  have hBpos : 0 < double.binade := by decide
  obtain ⟨last, hlast⟩ : ∃ last : Int, last = place + mag.log2 - 52 := ⟨_, rfl⟩
  obtain ⟨k1, k2⟩ := kept_bd' hm place last hlast
  have hlm : max (place + (mag.log2 : Int) - 52) (-1074) = last := by omega
  obtain ⟨q, hq⟩ : ∃ q : Nat, (q : Int) = last + 1074 := ⟨(last + 1074).toNat, by omega⟩
  have eq : (last - -1074).toNat = q := by omega
  generalize hk : Toward.even.cut false (mag <<< (place - last).toNat) (last - place).toNat = kept at k1 k2
  have hnear : double.nearest false mag place = Format.word double false (min (q * double.binade + kept) (2047 * double.binade)) := by
    unfold Format.nearest
    rw [if_neg (by omega)]
    simp only [hleast, hfb, hlm, eq, hinf, hk]
  rw [hnear]
  unfold Format.read
  rw [hinf, hsw, hleast]
  generalize double.binade = B at *
  obtain ⟨f1, f2, f3, f4, f5, f6⟩ := rung_facts q kept B hBpos k1 k2 (by omega)
  have hw : Format.word double false (min (q * B + kept) (2047 * B)) = q * B + kept := by
    unfold Format.word
    simp only [Bool.false_eq_true, if_false]
    omega
  simp only [hw, f1, f2]
  rw [if_neg (by omega), if_pos f4]
  rcases Nat.lt_or_ge kept (2 * B) with h | h
  · obtain ⟨g1, g2⟩ := f5 h
    refine ⟨kept, last, ?_, k1, h, .inl hlast⟩
    rw [g1, g2]
    have e3 : B + (kept - B) = kept := by omega
    have e4 : -1074 + (((q + 1 - 1 : Nat)) : Int) = last := by omega
    rw [e3, e4]; rfl
  · obtain rfl : kept = 2 * B := by omega
    obtain ⟨g1, g2⟩ := f6 rfl
    refine ⟨B, last + 1, ?_, Nat.le_refl _, by omega, .inr ⟨by omega, rfl⟩⟩
    rw [g1, g2]
    have e4 : -1074 + (((q + 2 - 1 : Nat)) : Int) = last + 1 := by omega
    rw [e4]; rfl
theorem read_nearest {mag : Nat} (hm : 0 < mag) (place : Int) (lo : -1000 ≤ place + mag.log2) (hi : place + mag.log2 ≤ 900) :
    ∃ M : Nat, ∃ L : Int, double.read (double.nearest false mag place) = .number false M L ∧ 2 ^ 52 ≤ M ∧ M < 2 ^ 53 ∧ (L = place + mag.log2 - 52 ∨ (L = place + mag.log2 - 51 ∧ M = 2 ^ 52)) := by
  obtain ⟨M, L, h1, h2, h3, h4⟩ := read_nearest' hm place lo hi
  have e : double.binade = 2 ^ 52 := rfl
  rw [e] at h2 h3 h4
  exact ⟨M, L, h1, h2, by omega, h4⟩
theorem rootFrom_le (n : Nat) : ∀ (todo root : Nat), root * root ≤ n → Datum.rootFrom n todo root * Datum.rootFrom n todo root ≤ n
  | 0, root, h => by unfold Datum.rootFrom; exact h
  | todo + 1, root, h => by
    unfold Datum.rootFrom
    simp only
    split
    · rename_i h'; exact rootFrom_le n todo _ h'
    · exact rootFrom_le n todo root h
/-- A float of at most 53 digits: its root's whole part. -/
theorem sqrt_int {n : Nat} (hn : 0 < n) (hb : n < 2 ^ 53) :
    ∃ b r, double.sqrt (double.write (.number false n 0)) = some b ∧ Go.floatToIntVal .f64 b .i64 = some r ∧ 0 ≤ r ∧ r ≤ 2 ^ 30 := by
  obtain ⟨l1, l2⟩ := log2_pos hn
  have hlog : n.log2 ≤ 52 := by
    rcases Nat.lt_or_ge 52 n.log2 with h | h
    · have := Nat.pow_le_pow_right (n := 2) (by omega) (show 53 ≤ n.log2 by omega); omega
    · exact h
  obtain ⟨M, L, hread, m1, m2, hL⟩ := read_nearest hn 0 (by omega) (by omega)
  have hM0 : M ≠ 0 := by omega
  have hMl : M.log2 = 52 := by
    rw [Nat.log2_eq_iff hM0]; exact ⟨m1, m2⟩
  -- the root
  obtain ⟨more, hmore, hpar⟩ : ∃ more : Nat, more = 2 * 54 - M.log2 + ((L - (2 * 54 - M.log2 : Nat)) % 2).toNat ∧ more ≤ 57 ∧ 56 ≤ more ∧ (L - more) % 2 = 0 := ⟨_, rfl, by omega, by omega, by omega⟩
  obtain ⟨p1, p2, p3⟩ := hpar
  obtain ⟨N, hNd⟩ : ∃ N, N = M <<< more := ⟨_, rfl⟩
  obtain ⟨whole, hwd⟩ : ∃ x, x = Datum.rootFrom N (N.log2 / 2 + 1) 0 := ⟨_, rfl⟩
  have hroot : Datum.root 54 (.number false M L) = some (.number false (2 * whole + (whole * whole != N).toNat) ((L - more) / 2 - 1)) := by
    unfold Datum.root
    simp only [hM0, if_false, Bool.false_eq_true]
    rw [← hmore, ← hNd, ← hwd]
  have hw : whole * whole ≤ N := by rw [hwd]; exact rootFrom_le N _ 0 (Nat.zero_le _)
  have hN : N = M * 2 ^ more := by rw [hNd]; exact Nat.shiftLeft_eq _ _
  clear hNd hwd
  have hNpos : 0 < N := by rw [hN]; exact Nat.mul_pos (by omega) (Nat.pow_pos (by omega))
  have hwb : whole < 2 ^ 55 := by
    rcases Nat.lt_or_ge whole (2 ^ 55) with h | h
    · exact h
    · exfalso
      have a1 : 2 ^ 55 * 2 ^ 55 ≤ whole * whole := Nat.mul_le_mul h h
      have a2 : M * 2 ^ more < 2 ^ 53 * 2 ^ 57 := Nat.lt_of_lt_of_le (Nat.mul_lt_mul_of_pos_right m2 (Nat.pow_pos (by omega))) (Nat.mul_le_mul_left _ (Nat.pow_le_pow_right (by omega) p1))
      have a3 : (2 : Nat) ^ 53 * 2 ^ 57 = 2 ^ 55 * 2 ^ 55 := by decide
      omega
  obtain ⟨mag, hmag⟩ : ∃ mag, mag = 2 * whole + (whole * whole != N).toNat := ⟨_, rfl⟩
  have hmag0 : 0 < mag := by
    rcases Nat.eq_zero_or_pos whole with h | h
    · have : (whole * whole != N) = true := by rw [bne_iff_ne, h]; omega
      rw [hmag, this]; simp
    · omega
  have hmag1 : mag < 2 ^ 56 := by
    have : (whole * whole != N).toNat ≤ 1 := by cases (whole * whole != N) <;> decide
    omega
  have hlm : mag.log2 ≤ 55 := by
    rcases Nat.lt_or_ge 55 mag.log2 with h | h
    · have := (log2_pos hmag0).1
      have := Nat.pow_le_pow_right (n := 2) (by omega) (show 56 ≤ mag.log2 by omega)
      omega
    · exact h
  rw [← hmag] at hroot
  obtain ⟨M', L', hread', m1', m2', hL'⟩ := read_nearest hmag0 ((L - more) / 2 - 1) (by omega) (by omega)
  refine ⟨double.write (.number false mag ((L - more) / 2 - 1)), ((M' / (1 <<< min (-L').toNat 54) : Nat) : Int), ?_, ?_, Int.natCast_nonneg _, ?_⟩
  · show (Datum.root 54 (double.read (double.nearest false n 0))).map double.write = _
    rw [hread, hroot]
    rfl
  · unfold Go.floatToIntVal
    have hd : Go.FloatKind.decode .f64 (double.write (.number false mag ((L - more) / 2 - 1))) = .number false M' L' := hread'
    have hMl' : M'.log2 = 52 := by
      rw [Nat.log2_eq_iff (by omega)]; exact ⟨m1', m2'⟩
    have e1 : L'.toNat = 0 := by omega
    have hi : Datum.toInt .zero (.number false M' L') = some ((M' / (1 <<< min (-L').toNat 54) : Nat) : Int) := by
      unfold Datum.toInt Datum.integral Toward.cut
      simp only [e1, Nat.shiftLeft_zero, hMl', signed]
      simp
    rw [hd, hi]
    simp only
    have hle : M' / (1 <<< min (-L').toNat 54) ≤ M' := Nat.div_le_self _ _
    rw [if_pos]
    have q1 : Go.IntKind.min .i64 = -9223372036854775808 := by decide
    have q2 : Go.IntKind.max .i64 = 9223372036854775807 := by decide
    rw [q1, q2]
    generalize M' / (1 <<< min (-L').toNat 54) = z at hle
    constructor <;> omega
  · rw [Nat.one_shiftLeft]
    have hd : 25 ≤ min (-L').toNat 54 := by omega
    have h1 : M' / 2 ^ min (-L').toNat 54 ≤ M' / 2 ^ 25 := Nat.div_le_div_left (Nat.pow_le_pow_right (by omega) hd) (Nat.pow_pos (by omega))
    have h2 : M' / 2 ^ 25 < 2 ^ 28 := by rw [Nat.div_lt_iff_lt_mul (by decide)]; omega
    generalize M' / 2 ^ min (-L').toNat 54 = z at h1 ⊢
    generalize M' / 2 ^ 25 = y at h1 h2
    omega
end Go.Proofs.YtpnabggpdgjbmaaGreatDoor
namespace Go.Proofs.YtpnabggpdgjbmaaGreatDoor
open Go.RowKit Go.Sort
/-- The square root, rounded down. -/
def rt : Nat → Nat
  | 0 => 0
  | n + 1 => if (rt n + 1) * (rt n + 1) ≤ n + 1 then rt n + 1 else rt n
theorem rt_spec : ∀ n : Nat, rt n * rt n ≤ n ∧ n < (rt n + 1) * (rt n + 1)
  | 0 => by simp [rt]
  | n + 1 => by
    obtain ⟨h1, h2⟩ := rt_spec n
    unfold rt
    generalize rt n = r at *
    split
    · rename_i h
      refine ⟨h, ?_⟩
      have e : (r + 1 + 1) * (r + 1 + 1) = (r + 1) * (r + 1) + 2 * r + 3 := by
        rw [Nat.add_mul (r + 1) 1, Nat.mul_add (r + 1) (r + 1) 1]; omega
      omega
    · exact ⟨by omega, by omega⟩
def rtI (n : Int) : Int := (rt n.toNat : Int)
/-- r is n's root. -/
def IsRt (n r : Int) : Prop := 0 ≤ r ∧ r * r ≤ n ∧ n < (r + 1) * (r + 1)
theorem rtI_is {n : Int} (h : 0 ≤ n) : IsRt n (rtI n) := by
  obtain ⟨m, rfl⟩ := Int.eq_ofNat_of_zero_le h
  obtain ⟨h1, h2⟩ := rt_spec m
  unfold rtI
  rw [Int.toNat_natCast]
  refine ⟨Int.natCast_nonneg _, ?_, ?_⟩
  · exact_mod_cast h1
  · exact_mod_cast h2
theorem sq_mono {a b : Int} (h0 : 0 ≤ a) (h : a ≤ b) : a * a ≤ b * b := Int.mul_le_mul h h h0 (by omega)
theorem IsRt.uniq {n r s : Int} (h : IsRt n r) (k : IsRt n s) : r = s := by
  obtain ⟨a1, a2, a3⟩ := h
  obtain ⟨b1, b2, b3⟩ := k
  rcases Int.lt_trichotomy r s with g | g | g
  · have := sq_mono (a := r + 1) (b := s) (by omega) (by omega); omega
  · exact g
  · have := sq_mono (a := s + 1) (b := r) (by omega) (by omega); omega
theorem l07Root_any (n : Int) (w : World) (h0 : 0 ≤ n) (h1 : n ≤ 1000000000000000000) :
    Calls Tryz.prog 155 #[.int .i64 n] w fun e w' => e = .returned (.int .i64 (rtI n)) ∧ w = w' := by
  have HR := Lib.hid (rtI_is h0)
  generalize rtI n = R at *
  go_enter Tryz.func155, Tryz.ntmps155
  go_wp2_with fail
  go_loop [3, 4] (fun s t => ∃ l h : Int, s = .int .i64 l ∧ t = .int .i64 h ∧ 0 ≤ l ∧ l < h ∧ h ≤ 1000000001 ∧ Hid (l * l ≤ n ∧ n < h * h)) (fun s t => (intOf t - intOf s).toNat)
  case atStart => exact ⟨0, 1000000001, rfl, rfl, by omega, by omega, by omega, by omega, by omega⟩
  case round =>
    obtain ⟨l, h, rfl, rfl, l0, lh, h1', HL⟩ := hrel
    by_cases hlt : 1 < h - l
    · obtain ⟨m, hm⟩ : ∃ m, (l + h) / 2 = m := ⟨_, rfl⟩
      have m1 : l < m ∧ m < h := by omega
      obtain ⟨m1, m2⟩ := m1
      have m3 : 0 ≤ m * m ∧ m * m ≤ 1000000001 * 1000000001 := ⟨Int.mul_nonneg (by omega) (by omega), Int.mul_le_mul (by omega) (by omega) (by omega) (by omega)⟩
      obtain ⟨m3, m4⟩ := m3
      by_cases hc : m * m ≤ n
      · have HC := Lib.hid hc
        go_wp2
        go_round
        case rel => exact ⟨m, h, val_int (by omega), rfl, by omega, by omega, by omega, HC.out, HL.out.2⟩
        case measure => simp [intOf]; omega
      · have HC := Lib.hid hc
        go_wp2
        go_round
        case rel => exact ⟨l, m, rfl, val_int (by omega), by omega, by omega, by omega, HL.out.1, by have := HC.out; omega⟩
        case measure => simp [intOf]; omega
    · have e : h = l + 1 := by omega
      have HE : Hid (l = R) := by
        have h2 := HL.out
        rw [e] at h2
        exact IsRt.uniq ⟨l0, h2.1, h2.2⟩ HR.out
      clear e
      go_wp2
      go_ret
      exact ⟨ret_int HE.out, rfl⟩
/-- A number is a square. -/
def sqB (n : Int) : Bool := decide (rtI n * rtI n = n)
theorem rtI_bd {n M : Int} (h0 : 0 ≤ n) (hM : 0 ≤ M) (h : n < M * M) : 0 ≤ rtI n ∧ rtI n < M := by
  obtain ⟨a, b, c⟩ := rtI_is h0
  refine ⟨a, ?_⟩
  rcases Int.lt_or_le (rtI n) M with g | g
  · exact g
  · have := sq_mono hM g; omega
theorem l07Square_any (n : Int) (w : World) (h0 : 0 ≤ n) (h1 : n ≤ 1000000000000000000) :
    Calls Tryz.prog 129 #[.int .i64 n] w fun e w' => e = .returned (.bool (sqB n)) ∧ w = w' := by
  obtain ⟨r1, r2⟩ := rtI_bd (n := n) (M := 1000000001) h0 (by omega) (by omega)
  have HR := Lib.hid (l07Root_any n · h0 h1)
  unfold sqB
  generalize rtI n = r at *
  have m3 : 0 ≤ r * r ∧ r * r ≤ 1000000001 * 1000000001 := ⟨Int.mul_nonneg (by omega) (by omega), Int.mul_le_mul (by omega) (by omega) (by omega) (by omega)⟩
  obtain ⟨m3, m4⟩ := m3
  go_enter Tryz.func129, Tryz.ntmps129
  go_wp2_with fail
  refine (HR.out _).mono ?_
  rintro e w' ⟨rfl, rfl⟩
  go_wp2
  go_ret
  exact ⟨ret_bool (by rw [Bool.eq_iff_iff]; simp), rfl⟩
theorem sqrtEx (x r : Nat) (W : World) (h : Ieee.double.sqrt x = some r) : (callFunc 191 #[.float .f64 x]).run Tryz.prog W = .ok (.value (.float .f64 r)) W := by
  rw [run_callFunc_extern Tryz.func191 (by kernel_rfl) (by kernel_rfl) (by kernel_rfl) (e := Extern.MathSqrt.sqrt) (by kernel_rfl)]
  have h' : FloatKind.f64.format.sqrt x = some r := h
  have e : Extern.MathSqrt.sqrt #[.float .f64 x] = pure (Value.float .f64 r) := by
    change (match FloatKind.f64.format.sqrt x with | some r => pure (Value.float .f64 r) | none => (do pure (Value.float .f64 (← choose (.nanBits .f64 x x))) : Sem Value)) = _
    rw [h']
  rw [e]
  rfl
theorem Sqrt_any (x r : Nat) (w : World) (h : Ieee.double.sqrt x = some r) : Calls Tryz.prog 174 #[.float .f64 x] w fun e w' => e = .returned (.float .f64 r) ∧ w = w' := by
  have hs := fun W => sqrtEx x r W h
  clear h
  go_enter Tryz.func174, Tryz.ntmps174
  go_wp2
  go_ret
  exact ⟨rfl, rfl⟩
theorem sqrt_zero : ∃ b r, Ieee.double.sqrt (Ieee.double.write (.number false 0 0)) = some b ∧ Go.floatToIntVal .f64 b .i64 = some r ∧ 0 ≤ r ∧ r ≤ 2 ^ 30 := ⟨_, 0, rfl, by decide +kernel, by omega, by omega⟩
theorem sqrt_all {n : Nat} (hb : n < 2 ^ 53) : ∃ b r, Ieee.double.sqrt (Ieee.double.write (.number false n 0)) = some b ∧ Go.floatToIntVal .f64 b .i64 = some r ∧ 0 ≤ r ∧ r ≤ 2 ^ 30 := by
  rcases Nat.eq_zero_or_pos n with rfl | h
  · exact sqrt_zero
  · exact sqrt_int h hb
theorem toFloat (n : Nat) (W : World) : (convert 2 175 (.int .i64 (n : Int))).run Tryz.prog W = .ok (.float .f64 (Ieee.double.write (.number false n 0))) W := by
  have e : FloatKind.f64.nearest (n : Int) = Ieee.double.write (.number false n 0) := by
    unfold FloatKind.nearest FloatKind.encode
    rw [decide_eq_false (by omega), Int.natAbs_natCast]
    rfl
  simp [convert, run_underlying Tryz.underlying2, run_underlying Tryz.underlying175, Conv.intToFloat, e]
set_option maxHeartbeats 1000000 in
theorem root_any (n : Int) (w : World) (h0 : 0 ≤ n) (h1 : n ≤ 1000000000000000) :
    Calls Tryz.prog 152 #[.int .i64 n] w fun e w' => e = .returned (.int .i64 (rtI n)) ∧ w = w' := by
  have HR := Lib.hid (rtI_is h0)
  generalize rtI n = R at *
  obtain ⟨m, rfl⟩ := Int.eq_ofNat_of_zero_le h0
  obtain ⟨b, r, hs, hf, r0, r1⟩ := sqrt_all (n := m) (by omega)
  have r1' : r ≤ 1073741824 := by omega
  have c1 := toFloat m
  have c2 : ∀ W, (convert 175 2 (.float .f64 b)).run Tryz.prog W = .ok (.int .i64 r) W := fun W => run_convert_float_int W 175 2 .f64 .i64 b r (by kernel_rfl) Tryz.underlying2 hf
  have HS := Lib.hid (Sqrt_any _ b · hs)
  clear hs hf r1
  generalize Ieee.double.write (.number false m 0) = x at *
  go_enter Tryz.func152, Tryz.ntmps152
  go_wp2_with fail
  refine (HS.out _).mono ?_
  rintro e w' ⟨rfl, rfl⟩
  go_wp2_with fail
  clear c1 c2
  go_loop [3] (fun t => ∃ s : Int, 0 ≤ s ∧ s ≤ 1073741824 ∧ t = .int .i64 s) (fun t => (intOf t).toNat)
  case atStart => exact ⟨r, by omega, by omega, rfl⟩
  case round =>
    obtain ⟨s, s0, s1, rfl⟩ := hrel
    obtain ⟨p1, p2⟩ : 0 ≤ s * s ∧ s * s ≤ 1073741824 * 1073741824 := ⟨Int.mul_nonneg (by omega) (by omega), Int.mul_le_mul (by omega) (by omega) (by omega) (by omega)⟩
    by_cases hc : (m : Int) < s * s
    · have hs0 : 0 < s := by
        rcases Int.lt_or_le 0 s with g | g
        · exact g
        · obtain rfl : s = 0 := by omega
          omega
      go_wp2
      go_round
      case rel => exact ⟨s - 1, by omega, by omega, rfl⟩
      case measure => simp [intOf]; omega
    · have HC : Hid (s * s ≤ (m : Int)) := by unfold Hid; omega
      go_wp2_with fail
      clear p1 p2
      go_loop [3] (fun t => ∃ s : Int, 0 ≤ s ∧ s ≤ 1073741824 ∧ Hid (s * s ≤ (m : Int)) ∧ t = .int .i64 s) (fun t => (m + 1 - intOf t).toNat)
      case atStart => exact ⟨s, by omega, by omega, HC.out, rfl⟩
      case round =>
        obtain ⟨u, u0, u1, HU, rfl⟩ := hrel
        obtain ⟨p1, p2⟩ : 0 ≤ (u + 1) * (u + 1) ∧ (u + 1) * (u + 1) ≤ 1073741825 * 1073741825 := ⟨Int.mul_nonneg (by omega) (by omega), Int.mul_le_mul (by omega) (by omega) (by omega) (by omega)⟩
        by_cases hc : (u + 1) * (u + 1) ≤ (m : Int)
        · have hu : u + 1 ≤ 40000000 := by
            rcases Int.lt_or_le 40000000 (u + 1) with g | g
            · have := sq_mono (a := 40000000) (b := u + 1) (by omega) (by omega); omega
            · exact g
          have hum : u + 1 ≤ (m : Int) := by
            have := Int.mul_le_mul_of_nonneg_left (show 1 ≤ u + 1 by omega) (show 0 ≤ u + 1 by omega)
            omega
          have HC2 := Lib.hid hc
          go_wp2
          go_round
          case rel => exact ⟨u + 1, by omega, by omega, HC2.out, rfl⟩
          case measure => simp [intOf]; omega
        · have HE : Hid (u = R) := IsRt.uniq ⟨u0, HU.out, by omega⟩ HR.out
          go_wp2
          go_ret
          exact ⟨ret_int HE.out, rfl⟩
theorem isSquare_any (n : Int) (w : World) (h0 : 0 ≤ n) (h1 : n ≤ 1000000000000000) :
    Calls Tryz.prog 121 #[.int .i64 n] w fun e w' => e = .returned (.bool (sqB n)) ∧ w = w' := by
  obtain ⟨r1, r2⟩ := rtI_bd (n := n) (M := 1000000001) h0 (by omega) (by omega)
  have HR := Lib.hid (root_any n · h0 h1)
  unfold sqB
  generalize rtI n = r at *
  have m3 : 0 ≤ r * r ∧ r * r ≤ 1000000001 * 1000000001 := ⟨Int.mul_nonneg (by omega) (by omega), Int.mul_le_mul (by omega) (by omega) (by omega) (by omega)⟩
  obtain ⟨m3, m4⟩ := m3
  go_enter Tryz.func121, Tryz.ntmps121
  go_wp2_with fail
  refine (HR.out _).mono ?_
  rintro e w' ⟨rfl, rfl⟩
  go_wp2
  go_ret
  exact ⟨ret_bool (by rw [Bool.eq_iff_iff]; simp), rfl⟩
end Go.Proofs.YtpnabggpdgjbmaaGreatDoor
namespace Go.Proofs.YtpnabggpdgjbmaaGreatDoor
open Go.RowKit Go.Sort
theorem BoxV.keepK {g s : Nat} {vs : List Value} {W W' : World} (h : BoxV g vs W) (k : Keep s W W') (hg : g ≠ s) : BoxV g vs W' :=
  ⟨fun j v hv => (k.cell hg h.lt).trans (h.c j v hv), fun j => (k.frozen hg h.lt).trans (h.f j), Nat.lt_of_lt_of_le h.lt k.2.1⟩
section
variable {N M : Nat} {w W W' : World}
end
/-- A rule's and a fraction's cells, held while others are written. -/
@[reducible] def S5 (h1 h2 : Nat) (l c s a b : Int) (W : World) : Prop := W.cell? ⟨h1, 0, none⟩ = some (.int .i64 l) ∧ W.cell? ⟨h1, 1, none⟩ = some (.int .i64 c) ∧ W.cell? ⟨h1, 2, none⟩ = some (.int .i64 s) ∧ W.cell? ⟨h2, 0, none⟩ = some (.int .i64 a) ∧ W.cell? ⟨h2, 1, none⟩ = some (.int .i64 b)
@[reducible] def S3 (h1 : Nat) (l c s : Int) (W : World) : Prop := W.cell? ⟨h1, 0, none⟩ = some (.int .i64 l) ∧ W.cell? ⟨h1, 1, none⟩ = some (.int .i64 c) ∧ W.cell? ⟨h1, 2, none⟩ = some (.int .i64 s)
end Go.Proofs.YtpnabggpdgjbmaaGreatDoor
namespace Go.Proofs.YtpnabggpdgjbmaaGreatDoor
open Go.RowKit Go.Sort
set_option maxHeartbeats 1000000 in
theorem l07DrawD_any (g B N : Nat) (w : World) (h : Src g B N w) (hN : N ≤ 800000) :
    Calls Tryz.prog 149 #[.pointer (some ⟨g, 0, none⟩)] w (RetN g B (N + 6) 2 702 w) := by
  have HS := Lib.hid h
  clear h
  go_enter Tryz.func149, Tryz.ntmps149
  go_wp2_with fail
  refine (srcPick_any g B N 98 _ HS.out (by omega) (by omega)).mono ?_
  rintro e w1 ⟨x, x1, x2, rfl, S1, K1⟩
  have S := Lib.hid S1
  have K := Lib.hid K1
  clear S1 K1 HS
  go_wp2_with fail
  refine (srcOne_any g B _ 3 _ S.out (by omega) (by omega)).mono ?_
  rintro e w2 ⟨b, rfl, S1, K1⟩
  have S := Lib.hid S1
  have K := Lib.hid (K.out.trans K1)
  clear S1 K1
  cases b
  · obtain ⟨q, hq⟩ : ∃ q, sqB (2 + x) = q := ⟨_, rfl⟩
    go_wp2_with fail
    refine (l07Square_any _ _ (by omega) (by omega)).mono ?_
    rw [hq]
    rintro e w' ⟨rfl, rfl⟩
    clear hq
    cases q
    · go_wp2
      go_ret
      exact ⟨_, by omega, by omega, rfl, S.out.more (by omega), K.out⟩
    · go_wp2
      go_ret
      exact ⟨_, by omega, by omega, rfl, S.out.more (by omega), K.out⟩
  · go_wp2_with fail
    refine (srcPick_any g B _ 700 _ S.out (by omega) (by omega)).mono ?_
    rintro e w3 ⟨z, z1, z2, rfl, S1, K1⟩
    have S := Lib.hid S1
    have K := Lib.hid (K.out.trans K1)
    clear S1 K1
    obtain ⟨q, hq⟩ : ∃ q, sqB (2 + z) = q := ⟨_, rfl⟩
    go_wp2_with fail
    refine (l07Square_any _ _ (by omega) (by omega)).mono ?_
    rw [hq]
    rintro e w' ⟨rfl, rfl⟩
    clear hq
    cases q
    · go_wp2
      go_ret
      exact ⟨_, by omega, by omega, rfl, S.out.more (by omega), K.out⟩
    · go_wp2
      go_ret
      exact ⟨_, by omega, by omega, rfl, S.out.more (by omega), K.out⟩
/-- What a draw of a surd returns. -/
def RetSd (g B N : Nat) (w : World) (e : Ending) (w' : World) : Prop := ∃ p d q : Int, e = .returned (.agg #[.int .i64 p, .int .i64 d, .int .i64 q]) ∧ Src g B N w' ∧ Keep g w w'
set_option maxRecDepth 100000 in
set_option maxHeartbeats 2000000 in
theorem l07Draw_any (g B N : Nat) (w : World) (h : Src g B N w) (hN : N ≤ 700000) :
    Calls Tryz.prog 113 #[.pointer (some ⟨g, 0, none⟩)] w (RetSd g B (N + 40) w) := by
  have HG := Lib.hid h.lt
  have S := Lib.hid (h.next (ext1 w (.cells #[.int .i64 0, .int .i64 0, .int .i64 0] 29)))
  have K := Lib.hid (Keep.of (ext1 w (.cells #[.int .i64 0, .int .i64 0, .int .i64 0] 29)) h.lt)
  have R := Lib.hid (BoxV.new w #[.int .i64 0, .int .i64 0, .int .i64 0] 29)
  clear h
  go_enter Tryz.func113, Tryz.ntmps113
  go_wp2_with fail
  generalize w.alloc (.cells #[.int .i64 0, .int .i64 0, .int .i64 0] 29) = W0 at *
  refine (l07DrawD_any g B N _ S.out (by omega)).mono ?_
  rintro e w1 ⟨d, d1, d2, rfl, S1, K1⟩
  have S := Lib.hid S1
  have R := Lib.hid (BoxV.keepK R.out K1 (by have := HG.out; omega))
  have K := Lib.hid (K.out.trans K1)
  clear S1 K1
  go_wp2_with fail
  refine (srcPick_any g B _ 41 _ S.out (by omega) (by omega)).mono ?_
  rintro e w2 ⟨x, x1, x2, rfl, S1, K1⟩
  have S := Lib.hid S1
  have R := Lib.hid (BoxV.keepK R.out K1 (by have := HG.out; omega))
  have K := Lib.hid (K.out.trans K1)
  clear S1 K1
  obtain ⟨p, hp0⟩ : ∃ p, x - 20 = p := ⟨_, rfl⟩
  obtain ⟨m, hm⟩ : ∃ m, p * p = m := ⟨_, rfl⟩
  have hp : -400 ≤ m ∧ m ≤ 400 := by
    have := mul_bd (x := p) (y := p) (M := 20) (N := 20) (by omega) (by omega) (by omega) (by omega) (by omega) (by omega)
    rw [← hm]; omega
  obtain ⟨hp1, hp2⟩ := hp
  have p1 : -20 ≤ p := by omega
  have p2 : p ≤ 20 := by omega
  go_wp2_with fail
  refine (l02Size_any (d - m) _ (by omega) (by omega)).mono ?_
  rintro e w' ⟨rfl, rfl⟩
  obtain ⟨v, hv⟩ : ∃ v : Int, ((d - m).natAbs : Int) = v := ⟨_, rfl⟩
  have v1 : 0 ≤ v := by omega
  have v2 : v ≤ 2000 := by omega
  rw [hv]
  clear hv hm hp0 x1 x2
  go_wp2_with fail
  refine (srcPick_any g B _ 8 _ S.out (by omega) (by omega)).mono ?_
  rintro e w3 ⟨k, k1, k2, rfl, S1, K1⟩
  have S := Lib.hid S1
  have R := Lib.hid (BoxV.keepK R.out K1 (by have := HG.out; omega))
  have K := Lib.hid (K.out.trans K1)
  clear S1 K1
  obtain ⟨k, rfl⟩ : ∃ j : Nat, k = (j : Int) := ⟨k.toNat, by omega⟩
  have hk7 : k ≤ 7 := by omega
  clear k1 k2
  go_wp2_with fail
  go_loopw [7, 6] (fun t u wr => ∃ (k : Nat) (q : Int), t = .int .i64 k ∧ k ≤ 7 ∧ u = .int .i64 q ∧ 1 ≤ q ∧ q ≤ 40 ∧ Hid (Src g B (N + 10 + 2 * (7 - k)) wr) ∧ Hid (Keep g w wr) ∧ Hid (BoxV w.heap.size [.int .i64 0, .int .i64 0, .int .i64 0] wr)) (fun t _ _ => (intOf t).toNat)
  case atStart => exact ⟨k, 1, rfl, hk7, rfl, by omega, by omega, S.out.more (by omega), K, R⟩
  case round =>
    obtain ⟨k, q, rfl, hk, rfl, q1, q2, S, K, R⟩ := hrel
    by_cases h0 : 0 < k
    · go_wp2_with fail
      refine (srcPick_any g B _ 40 _ S.out (by omega) (by omega)).mono ?_
      rintro e w4 ⟨y, y1, y2, rfl, S1, K1⟩
      have S := Lib.hid S1
      have R := Lib.hid (BoxV.keepK R.out K1 (by have := HG.out; omega))
      have K := Lib.hid (K.out.trans K1)
      clear S1 K1
      have y0 : (1 + y == 0) = false := by simp; omega
      go_wp2_with fail
      all_goals go_roundw
      case rel => exact ⟨k - 1, _, val_int (by omega), by omega, rfl, by omega, by omega, S.out.more (by omega), K, R⟩
      case measure => simp [intOf]; omega
      case rel => exact ⟨k - 1, _, val_int (by omega), by omega, rfl, by omega, by omega, S.out.more (by omega), K, R⟩
      case measure => simp [intOf]; omega
    · go_wp2_with fail
      refine (srcOne_any g B _ 4 _ S.out (by omega) (by omega)).mono ?_
      rintro e w4 ⟨b, rfl, S1, K1⟩
      have S := Lib.hid S1
      have R := Lib.hid (BoxV.keepK R.out K1 (by have := HG.out; omega))
      have K := Lib.hid (K.out.trans K1)
      clear S1 K1
      have r0 := R.out.at 0 _ rfl
      have r1 := R.out.at 1 _ rfl
      have r2 := R.out.at 2 _ rfl
      have f0 := R.out.f 0
      have f1 := R.out.f 1
      have f2 := R.out.f 2
      obtain ⟨s0, s1, s2⟩ := set_three r0 r1 r2
      have HE : Hid (∀ a b c, Src g B (N + 40) (((w4.setCell ⟨w.heap.size, 0, none⟩ a).setCell ⟨w.heap.size, 1, none⟩ b).setCell ⟨w.heap.size, 2, none⟩ c) ∧ Keep g w (((w4.setCell ⟨w.heap.size, 0, none⟩ a).setCell ⟨w.heap.size, 1, none⟩ b).setCell ⟨w.heap.size, 2, none⟩ c)) := fun a b c =>
        ⟨(((S.out.more (by omega)).setOther HG.out _ _).setOther HG.out _ _).setOther HG.out _ _, ((K.out.setOther HG.out (Nat.le_refl _) _ _).setOther HG.out (Nat.le_refl _) _ _).setOther HG.out (Nat.le_refl _) _ _⟩
      cases b
      · go_wp2
        refine bodyPost_ret ?_ rfl ⟨p, d, q, rfl, (HE.out _ _ _).1, (HE.out _ _ _).2⟩
        simp [results, Tryz.results113, go_sem, s0, s1, s2]
      · go_wp2
        refine bodyPost_ret ?_ rfl ⟨p, d, -q, rfl, (HE.out _ _ _).1, (HE.out _ _ _).2⟩
        simp [results, Tryz.results113, go_sem, s0, s1, s2]
end Go.Proofs.YtpnabggpdgjbmaaGreatDoor
