/- Parts of the proof, merged: UnitP UnitQ CertW ProveW. No condition but those that each theorem names. -/
import Derived.Test.YtpgkellmhlmjeaaGreatDoorMgAE
import Derived.Test.YtpgkellmhlmjeaaGreatDoorMgAH
import Derived.Test.YtpgkellmhlmjeaaGreatDoorMgAB
import Derived.Deep.RegionHeld3
import Derived.Test.YtpgkellmhlmjeaaGreatDoorMgAC
namespace Go.Proofs.YtpgkellmhlmjeaaGreatDoor
open Go.RowKit Go.Sort
/-- A reduced surd of d. -/
def Red (d : Int) (s : Sd) : Prop := s.2.1 = d ∧ 1 ≤ s.1 ∧ s.1 ≤ rtI d ∧ 1 ≤ s.2.2 ∧ s.2.2 ≤ s.1 + rtI d ∧ rtI d < s.1 + s.2.2 ∧ s.2.2 ∣ (d - s.1 * s.1)
/-- A number between 2 and a million that is no square. -/
def NoSq (d : Int) : Prop := 2 ≤ d ∧ d ≤ 1000000 ∧ sqB d = false
theorem NoSq.rt {d : Int} (h : NoSq d) : 1 ≤ rtI d ∧ rtI d ≤ 999 ∧ rtI d * rtI d < d ∧ d < (rtI d + 1) * (rtI d + 1) := rt_small h.1 h.2.1 h.2.2
theorem red_fl {d : Int} {s : Sd} (h : Red d s) : flS s = (s.1 + rtI d) / s.2.2 ∧ 1 ≤ flS s ∧ flS s * s.2.2 ≤ s.1 + rtI d ∧ s.1 + rtI d < flS s * s.2.2 + s.2.2 := by
  obtain ⟨p, d', q⟩ := s
  obtain ⟨h1, h2, h3, h4, h5, h6, _⟩ := h
  simp only at h1 h2 h3 h4 h5 h6
  subst h1
  have e : flS (p, d', q) = (p + rtI d') / q := by simp [flS, show 0 < q by omega]
  have h7 := Int.mul_ediv_add_emod (p + rtI d') q
  have h8 := Int.emod_nonneg (p + rtI d') (show q ≠ 0 by omega)
  have h9 := Int.emod_lt_of_pos (p + rtI d') (show 0 < q by omega)
  refine ⟨e, ?_, ?_, ?_⟩
  · rw [e]
    exact Int.le_ediv_of_mul_le (by omega) (by omega)
  · rw [e]; simp only; rw [Int.mul_comm]; omega
  · rw [e]; simp only; rw [Int.mul_comm]; omega
theorem diff_sq (x y : Int) : (x - y) * (x + y) = x * x - y * y := by
  rw [Int.sub_mul, Int.mul_add, Int.mul_add, Int.mul_comm y x]; omega
theorem red_next {d : Int} (hd : NoSq d) {s : Sd} (h : Red d s) : Red d (nxS s) ∧ nqS s * s.2.2 = d - npS s * npS s := by
  obtain ⟨r1, _, r3, r4⟩ := hd.rt
  obtain ⟨f0, f1, f2, f3⟩ := red_fl h
  obtain ⟨p, d', q⟩ := s
  obtain ⟨h1, h2, h3, h4, h5, h6, h7⟩ := h
  simp only at h1 h2 h3 h4 h5 h6 h7 f0 f1 f2 f3
  subst h1
  obtain ⟨a, ha⟩ : ∃ a, flS (p, d', q) = a := ⟨_, rfl⟩
  have en : npS (p, d', q) = a * q - p := by simp only [npS, ha]
  rw [ha] at f1 f2 f3
  have haq : q ≤ a * q := by
    have := Int.mul_le_mul_of_nonneg_right f1 (show 0 ≤ q by omega)
    omega
  obtain ⟨x, hx⟩ : ∃ x, a * q = x := ⟨_, rfl⟩
  rw [hx] at f2 f3 haq en
  obtain ⟨np, hnp⟩ : ∃ np, npS (p, d', q) = np := ⟨_, rfl⟩
  rw [hnp] at en
  have n1 : 1 ≤ np := by omega
  have n2 : np ≤ rtI d' := by omega
  have n3 : rtI d' - q < np := by omega
  have hdv : q ∣ d' - np * np := by
    obtain ⟨k, hk⟩ := h7
    refine ⟨k - a * a * q + 2 * (a * p), ?_⟩
    rw [en, ← hx]
    have : q * (k - a * a * q + 2 * (a * p)) = q * k - (a * q) * (a * q) + 2 * ((a * q) * p) := by
      rw [Int.mul_add, Int.mul_sub]
      congr 1
      · congr 1
        rw [Int.mul_assoc a a q, ← Int.mul_assoc q a (a * q), Int.mul_comm q a]
      · rw [← Int.mul_assoc, Int.mul_comm q 2, Int.mul_assoc, ← Int.mul_assoc q a p, Int.mul_comm q a]
    rw [this, ← hk]
    have e2 : (a * q - p) * (a * q - p) = (a * q) * (a * q) - 2 * ((a * q) * p) + p * p := by
      rw [Int.sub_mul, Int.mul_sub, Int.mul_sub, Int.mul_comm p (a * q)]
      omega
    rw [e2]
    omega
  have hsq1 : np * np ≤ rtI d' * rtI d' := sq_mono (by omega) n2
  have hpos : 0 < d' - np * np := by omega
  have hnq : nqS (p, d', q) = (d' - np * np) / q := by
    simp only [nqS, hnp]
    exact Int.tdiv_eq_ediv_of_nonneg (by omega)
  obtain ⟨k, hk⟩ := hdv
  have hkq : (d' - np * np) / q = k := by rw [hk]; exact Int.mul_ediv_cancel_left _ (by omega)
  rw [hkq] at hnq
  have k1 : 1 ≤ k := by
    rcases Int.lt_or_le k 1 with g | g
    · have := Int.mul_nonpos_of_nonneg_of_nonpos (show 0 ≤ q by omega) (show k ≤ 0 by omega)
      omega
    · exact g
  have k2 : k ≤ np + rtI d' := by
    rcases Int.lt_or_le (np + rtI d') k with g | g
    · have m1 : q * (np + rtI d' + 1) ≤ q * k := Int.mul_le_mul_of_nonneg_left (by omega) (by omega)
      have m2 : (rtI d' - np + 1) * (np + rtI d' + 1) ≤ q * (np + rtI d' + 1) := Int.mul_le_mul_of_nonneg_right (by omega) (by omega)
      have m3 : (rtI d' - np + 1) * (np + rtI d' + 1) = (rtI d' + 1) * (rtI d' + 1) - np * np := by
        rw [show rtI d' - np + 1 = (rtI d' + 1) - np by omega, show np + rtI d' + 1 = (rtI d' + 1) + np by omega, diff_sq]
      omega
    · exact g
  have k3 : rtI d' < np + k := by
    rcases Int.lt_or_le (rtI d') (np + k) with g | g
    · exact g
    · have hq : q ≤ rtI d' + np := by omega
      have m1 : q * k ≤ (rtI d' + np) * k := Int.mul_le_mul_of_nonneg_right hq (by omega)
      have m2 : (rtI d' + np) * k ≤ (rtI d' + np) * (rtI d' - np) := Int.mul_le_mul_of_nonneg_left (by omega) (by omega)
      have m3 : (rtI d' + np) * (rtI d' - np) = rtI d' * rtI d' - np * np := by
        rw [Int.add_mul, Int.mul_sub, Int.mul_sub, Int.mul_comm np (rtI d')]
        omega
      omega
  refine ⟨⟨rfl, ?_⟩, ?_⟩
  · simp only [nxS, hnp, hnq]
    exact ⟨n1, n2, k1, k2, k3, ⟨q, by rw [hk, Int.mul_comm]⟩⟩
  · simp only [hnp, hnq]
    rw [hk, Int.mul_comm]
theorem red_ok {d : Int} (hd : NoSq d) {s : Sd} (h : Red d s) : sdOk s = true := by
  obtain ⟨r1, r2, _, _⟩ := hd.rt
  obtain ⟨p, d', q⟩ := s
  obtain ⟨h1, h2, h3, h4, h5, h6, h7⟩ := h
  simp only at h1 h2 h3 h4 h5 h6 h7
  subst h1
  show surdB p d' q = true
  refine surdB_true.2 ⟨⟨hd.1, hd.2.1⟩, hd.2.2, ⟨by omega, by omega⟩, ⟨by omega, by omega⟩, by omega, ?_⟩
  exact Int.tmod_eq_zero_of_dvd h7
theorem red_inj {d : Int} (hd : NoSq d) {s t : Sd} (hs : Red d s) (ht : Red d t) (h : nxS s = nxS t) : s = t := by
  obtain ⟨_, g1⟩ := red_next hd hs
  obtain ⟨_, g2⟩ := red_next hd ht
  have hr1 := (red_next hd hs).1
  have e1 : npS s = npS t := congrArg (fun x : Sd => x.1) h
  have e2 : nqS s = nqS t := congrArg (fun x : Sd => x.2.2) h
  have hk : 1 ≤ nqS s := hr1.2.2.2.1
  obtain ⟨_, _, a2, a3⟩ := red_fl hs
  obtain ⟨_, _, b2, b3⟩ := red_fl ht
  obtain ⟨p, d1, q⟩ := s
  obtain ⟨p', d2, q'⟩ := t
  obtain ⟨h1, h2, h3, h4, h5, h6, h7⟩ := hs
  obtain ⟨k1, k2, k3, k4, k5, k6, k7⟩ := ht
  simp only at *
  subst h1
  subst k1
  have hq : q = q' := by
    rw [← e1, ← e2, ← g1] at g2
    exact (Int.eq_of_mul_eq_mul_left (by omega) g2).symm
  subst hq
  have hp : p = flS (p, d2, q) * q - npS (p, d2, q) := by simp only [npS]; omega
  have hp' : p' = flS (p', d2, q) * q - npS (p', d2, q) := by simp only [npS]; omega
  rw [← e1] at hp'
  generalize npS (p, d2, q) = np at *
  generalize flS (p, d2, q) = a at *
  generalize flS (p', d2, q) = b at *
  have hab : a = b := by
    rcases Int.lt_trichotomy a b with g | g | g
    · have := Int.mul_le_mul_of_nonneg_right (show a + 1 ≤ b by omega) (show 0 ≤ q by omega)
      rw [Int.add_mul] at this
      omega
    · exact g
    · have := Int.mul_le_mul_of_nonneg_right (show b + 1 ≤ a by omega) (show 0 ≤ q by omega)
      rw [Int.add_mul] at this
      omega
  subst hab
  have : p = p' := by omega
  rw [this]
/-- The surds that follow. -/
def itS (s : Sd) : Nat → Sd
  | 0 => s
  | k + 1 => nxS (itS s k)
theorem itS_succ' (s : Sd) : ∀ k, itS s (k + 1) = itS (nxS s) k
  | 0 => rfl
  | k + 1 => by show nxS (itS s (k + 1)) = nxS (itS (nxS s) k); rw [itS_succ' s k]
theorem red_it {d : Int} (hd : NoSq d) {s : Sd} (h : Red d s) : ∀ k, Red d (itS s k)
  | 0 => h
  | k + 1 => (red_next hd (red_it hd h k)).1
theorem it_back {d : Int} (hd : NoSq d) {s : Sd} (h : Red d s) : ∀ a b, itS s (a + b) = itS s a → itS s b = s
  | 0, b, e => by rwa [Nat.zero_add] at e
  | a + 1, b, e => by
    rw [show a + 1 + b = (a + b) + 1 by omega] at e
    exact it_back hd h a b (red_inj hd (red_it hd h _) (red_it hd h _) e)
theorem natrec {α : Bool} {n : Nat} {f : Nat → Bool} (h : (Nat.rec false (fun m _ => f m) n : Bool) = α) (ha : α = true) : ∃ m, n = m + 1 ∧ f m = true := by
  cases n with
  | zero => subst ha; simp at h
  | succ m => exact ⟨m, rfl, by subst ha; exact h⟩
theorem cyc_step {r d e k p q : Nat} (h : cyc r d e (k + 1) p q = true) :
    ∃ p' q', (p + 1 + r) / (q + 1) * (q + 1) - (p + 1) = p' + 1 ∧ (d - (p' + 1) * (p' + 1)) / (q + 1) = q' + 1 ∧ ((p' + 1 = r ∧ q' + 1 = e) ∨ cyc r d e k p' q' = true) := by
  obtain ⟨p', e1, h1⟩ := natrec (f := fun p' => Nat.rec false (fun q' _ => Bool.rec (cyc r d e k p' q') true (Nat.beq (p' + 1) r && Nat.beq (q' + 1) e)) ((d - (p' + 1) * (p' + 1)) / (q + 1))) (show (Nat.rec false (fun p' _ => Nat.rec false (fun q' _ => Bool.rec (cyc r d e k p' q') true (Nat.beq (p' + 1) r && Nat.beq (q' + 1) e)) ((d - (p' + 1) * (p' + 1)) / (q + 1))) ((p + 1 + r) / (q + 1) * (q + 1) - (p + 1)) : Bool) = true from h) rfl
  obtain ⟨q', e2, h2⟩ := natrec (f := fun q' => Bool.rec (cyc r d e k p' q') true (Nat.beq (p' + 1) r && Nat.beq (q' + 1) e)) h1 rfl
  refine ⟨p', q', e1, e2, ?_⟩
  cases hb : (Nat.beq (p' + 1) r && Nat.beq (q' + 1) e)
  · rw [hb] at h2; exact .inr h2
  · rw [Bool.and_eq_true] at hb
    exact .inl ⟨Nat.eq_of_beq_eq_true hb.1, Nat.eq_of_beq_eq_true hb.2⟩
theorem cyc_it {r d e : Nat} (hd : NoSq (d : Int)) (hr : rtI (d : Int) = (r : Int)) : ∀ (k p q : Nat), cyc r d e k p q = true → Red (d : Int) (((p + 1 : Nat) : Int), (d : Int), ((q + 1 : Nat) : Int)) →
    ∃ m, 1 ≤ m ∧ m ≤ k ∧ itS (((p + 1 : Nat) : Int), (d : Int), ((q + 1 : Nat) : Int)) m = ((r : Int), (d : Int), (e : Int))
  | 0, p, q, h, _ => by cases h
  | k + 1, p, q, h, hs => by
    obtain ⟨p', q', e1, e2, h3⟩ := cyc_step h
    obtain ⟨f0, f1, f2, f3⟩ := red_fl hs
    obtain ⟨g1, g2⟩ := red_next hd hs
    have hn : nxS (((p + 1 : Nat) : Int), (d : Int), ((q + 1 : Nat) : Int)) = (((p' + 1 : Nat) : Int), (d : Int), ((q' + 1 : Nat) : Int)) := by
      have a1 : flS (((p + 1 : Nat) : Int), (d : Int), ((q + 1 : Nat) : Int)) = (((p + 1 + r) / (q + 1) : Nat) : Int) := by
        rw [f0, hr]
        simp only
        norm_cast
      obtain ⟨_, n1, n2, _⟩ := g1
      have a2 : npS (((p + 1 : Nat) : Int), (d : Int), ((q + 1 : Nat) : Int)) = ((p' + 1 : Nat) : Int) := by
        have n1' : 1 ≤ npS (((p + 1 : Nat) : Int), (d : Int), ((q + 1 : Nat) : Int)) := n1
        simp only [npS, a1] at n1' ⊢
        rw [← e1]
        have : (((p + 1 + r) / (q + 1) : Nat) : Int) * ((q + 1 : Nat) : Int) = (((p + 1 + r) / (q + 1) * (q + 1) : Nat) : Int) := by norm_cast
        rw [this] at n1' ⊢
        omega
      have a3 : nqS (((p + 1 : Nat) : Int), (d : Int), ((q + 1 : Nat) : Int)) = ((q' + 1 : Nat) : Int) := by
        rw [a2] at g2
        have hpos : (p' + 1) * (p' + 1) ≤ d := by
          have hsq : ((p' + 1 : Nat) : Int) * ((p' + 1 : Nat) : Int) ≤ rtI (d : Int) * rtI (d : Int) := by
            have n2' : npS (((p + 1 : Nat) : Int), (d : Int), ((q + 1 : Nat) : Int)) ≤ rtI (d : Int) := n2
            rw [a2] at n2'
            exact sq_mono (by omega) n2'
          have := hd.rt.2.2.1
          have h5 : ((p' + 1 : Nat) : Int) * ((p' + 1 : Nat) : Int) ≤ (d : Int) := by omega
          exact_mod_cast h5
        have h6 : ((d - (p' + 1) * (p' + 1) : Nat) : Int) = (d : Int) - ((p' + 1 : Nat) : Int) * ((p' + 1 : Nat) : Int) := by
          rw [Int.ofNat_sub hpos]; norm_cast
        simp only [nqS, a2]
        rw [← h6, ← e2]
        rw [Int.tdiv_eq_ediv_of_nonneg (by omega)]
        norm_cast
      show (npS _, (d : Int), nqS _) = _
      rw [a2, a3]
    rcases h3 with ⟨e3, e4⟩ | h3
    · refine ⟨1, by omega, by omega, ?_⟩
      have e5 : itS (((p + 1 : Nat) : Int), (d : Int), ((q + 1 : Nat) : Int)) 1 = nxS (((p + 1 : Nat) : Int), (d : Int), ((q + 1 : Nat) : Int)) := rfl
      rw [e5, hn, e3, e4]
    · rw [hn] at g1
      obtain ⟨m, m1, m2, m3⟩ := cyc_it hd hr k p' q' h3 g1
      refine ⟨m + 1, by omega, by omega, ?_⟩
      rw [itS_succ', hn]
      exact m3
theorem least_of {p : Nat → Prop} (n : Nat) (h : p n) : ∃ m, m ≤ n ∧ p m ∧ ∀ k, k < m → ¬ p k := by
  induction n using Nat.strongRecOn with
  | _ n ih =>
    by_cases hk : ∃ k, k < n ∧ p k
    · obtain ⟨k, hk1, hk2⟩ := hk
      obtain ⟨m, m1, m2, m3⟩ := ih k hk1 hk2
      exact ⟨m, by omega, m2, m3⟩
    · exact ⟨n, Nat.le_refl _, h, fun k hk1 hk2 => hk ⟨k, hk1, hk2⟩⟩
/-- The first reduced surd of a root. -/
def fsS (d : Int) : Sd := (rtI d, d, d - rtI d * rtI d)
theorem red_first {d : Int} (hd : NoSq d) : Red d (fsS d) := by
  obtain ⟨r1, r2, r3, r4⟩ := hd.rt
  have e : (rtI d + 1) * (rtI d + 1) = rtI d * rtI d + 2 * rtI d + 1 := by rw [Int.add_mul, Int.mul_add]; omega
  have hf : fsS d = (rtI d, d, d - rtI d * rtI d) := rfl
  rw [hf]
  refine ⟨rfl, r1, Int.le_refl _, ?_, ?_, ?_, ?_⟩
  · simp only; omega
  · simp only; omega
  · simp only; omega
  · exact Int.dvd_refl _
theorem next_root {d : Int} (hd : NoSq d) : flS (0, d, 1) = rtI d ∧ nxS (0, d, 1) = fsS d ∧ sdOk (0, d, 1) = true := by
  have e1 : flS (0, d, 1) = rtI d := by simp [flS]
  have e2 : npS (0, d, 1) = rtI d := by simp [npS, e1]
  have e3 : nqS (0, d, 1) = d - rtI d * rtI d := by simp [nqS, e2]
  refine ⟨e1, ?_, (show surdB 0 d 1 = true from surdB_true.2 ⟨⟨hd.1, hd.2.1⟩, hd.2.2, ⟨by omega, by omega⟩, ⟨by omega, by omega⟩, by omega, by simp⟩)⟩
  show (npS (0, d, 1), d, nqS (0, d, 1)) = _
  rw [e2, e3]
  rfl
/-- The surds of a root up to number 10000 come again at the second. -/
theorem root_cycle {d : Int} (h1 : 2 ≤ d) (h2 : d ≤ 10000) (h3 : sqB d = false) : ∃ n, 1 ≤ n ∧ n ≤ 398 ∧ itS (fsS d) n = fsS d ∧ ∀ k, 1 ≤ k → k < n → itS (fsS d) k ≠ fsS d := by
  have hd : NoSq d := ⟨h1, by omega, h3⟩
  obtain ⟨r1, r2, r3, r4⟩ := hd.rt
  have e : (rtI d + 1) * (rtI d + 1) = rtI d * rtI d + 2 * rtI d + 1 := by rw [Int.add_mul, Int.mul_add]; omega
  have hr99 : rtI d ≤ 99 := by
    rcases Int.lt_or_le 99 (rtI d) with g | g
    · have := sq_mono (a := 100) (b := rtI d) (by omega) (by omega)
      omega
    · exact g
  obtain ⟨D, hD⟩ := Int.eq_ofNat_of_zero_le (show 0 ≤ d by omega)
  obtain ⟨r, hr⟩ := Int.eq_ofNat_of_zero_le (show 0 ≤ rtI d by omega)
  have hD' : d = (D : Int) := hD
  have hr' : rtI d = (r : Int) := hr
  subst hD'
  have e4 : ((r * r : Nat) : Int) = rtI (D : Int) * rtI (D : Int) := by rw [hr']; norm_cast
  have hj1 : 1 ≤ D - r * r := by omega
  have hj2 : D - r * r ≤ 2 * r := by omega
  have hc := cycJ_all (r := r) (j := D - r * r) (by omega) (by omega) hj1 hj2
  obtain ⟨d', e5, hc2⟩ := natrec (f := fun d' => cyc r (d' + 1) (D - r * r) 398 (r - 1) (D - r * r - 1)) (show (Nat.rec false (fun d' _ => cyc r (d' + 1) (D - r * r) 398 (r - 1) (D - r * r - 1)) (r * r + (D - r * r)) : Bool) = true from hc) rfl
  have e6 : d' + 1 = D := by omega
  rw [e6] at hc2
  have hs : fsS (D : Int) = (((r - 1 + 1 : Nat) : Int), (D : Int), ((D - r * r - 1 + 1 : Nat) : Int)) := by
    show (rtI (D : Int), (D : Int), (D : Int) - rtI (D : Int) * rtI (D : Int)) = _
    rw [← e4, hr', show r - 1 + 1 = r by omega, show D - r * r - 1 + 1 = D - r * r by omega, show ((D - r * r : Nat) : Int) = (D : Int) - ((r * r : Nat) : Int) by omega]
  have hred := red_first hd
  rw [hs] at hred
  obtain ⟨m, m1, m2, m3⟩ := cyc_it hd hr' 398 (r - 1) (D - r * r - 1) hc2 hred
  rw [← hs] at m3
  have hs2 : ((r : Int), (D : Int), ((D - r * r : Nat) : Int)) = fsS (D : Int) := by
    rw [hs, show r - 1 + 1 = r by omega, show D - r * r - 1 + 1 = D - r * r by omega]
  rw [hs2] at m3
  obtain ⟨n, n1, n2, n3⟩ := least_of (p := fun k => 1 ≤ k ∧ itS (fsS (D : Int)) k = fsS (D : Int)) m ⟨m1, m3⟩
  exact ⟨n, n2.1, by omega, n2.2, fun k k1 k2 k3 => n3 k k2 ⟨k1, k3⟩⟩
def cyL (d : Int) (n : Nat) : List Sd := (0, d, 1) :: (List.range n).map (itS (fsS d))
theorem per_root {d : Int} (hd : NoSq d) {n : Nat} (n1 : 1 ≤ n) (n2 : n ≤ 398) (h : itS (fsS d) n = fsS d) (hl : ∀ k, 1 ≤ k → k < n → itS (fsS d) k ≠ fsS d) :
    perOf (0, d, 1) = some (cyL d n, 1) := by
  have hred := red_first hd
  have hne0 : ∀ k, itS (fsS d) k ≠ (0, d, 1) := fun k e => by
    have := (red_it hd hred k).2.1
    rw [e] at this
    simp only at this
    omega
  have key : ∀ i j, i + j = n → per (399 - j) (cyL d j) (itS (fsS d) j) = some (cyL d n, 1) := by
    intro i
    induction i with
    | zero =>
      intro j hj
      obtain rfl : j = n := by omega
      rw [h]
      have hm : fsS d ∈ cyL d j := by
        unfold cyL
        exact List.mem_cons_of_mem _ (List.mem_map.2 ⟨0, List.mem_range.2 (by omega), rfl⟩)
      have hidx : (cyL d j).idxOf (fsS d) = 1 := by
        unfold cyL
        obtain ⟨m, rfl⟩ : ∃ m, j = m + 1 := ⟨j - 1, by omega⟩
        have b1 : (((0, d, 1) : Sd) == fsS d) = false := by
          rw [beq_eq_false_iff_ne]
          exact fun e => hne0 0 e.symm
        have b2 : (itS (fsS d) 0 == fsS d) = true := by rw [beq_iff_eq]; rfl
        rw [List.range_succ_eq_map, List.map_cons, List.idxOf_cons, b1, List.idxOf_cons, b2]
        rfl
      obtain ⟨m, hm2⟩ : ∃ m, 399 - j = m + 1 := ⟨398 - j, by omega⟩
      rw [hm2, per, if_pos hm, hidx]
    | succ i ih =>
      intro j hj
      have hnm : itS (fsS d) j ∉ cyL d j := by
        unfold cyL
        intro hm
        rcases List.mem_cons.1 hm with e | hm
        · exact hne0 j e
        · obtain ⟨a, ha, e⟩ := List.mem_map.1 hm
          have ha := List.mem_range.1 ha
          have hb := it_back hd hred a (j - a) (by rw [show a + (j - a) = j by omega]; exact e.symm)
          exact hl (j - a) (by omega) (by omega) hb
      have hok : sdOk (nxS (itS (fsS d) j)) = true := red_ok hd (red_it hd hred (j + 1))
      have := ih (j + 1) (by omega)
      have e1 : cyL d j ++ [itS (fsS d) j] = cyL d (j + 1) := by unfold cyL; rw [List.range_succ, List.map_append]; rfl
      obtain ⟨m, hm⟩ : ∃ m, 399 - j = m + 1 := ⟨398 - j, by omega⟩
      rw [hm, per, if_neg hnm, if_pos hok, e1]
      rwa [show 399 - (j + 1) = m by omega] at this
  obtain ⟨_, e2, _⟩ := next_root hd
  have h0 := key n 0 (by omega)
  unfold perOf
  rw [per, if_neg (by simp), e2, if_pos (red_ok hd hred)]
  exact h0
end Go.Proofs.YtpgkellmhlmjeaaGreatDoor
namespace Go.Proofs.YtpgkellmhlmjeaaGreatDoor
open Go.RowKit Go.Sort
/-- A pair that is plain for d. -/
def plB (d x y : Int) : Bool := inR x (-1000000000) 1000000000 && (inR y (-1000000000) 1000000000 && decide (y * y ≤ 1000000000000000000 / d))
theorem plB_true {d x y : Int} : plB d x y = true ↔ (-1000000000 ≤ x ∧ x ≤ 1000000000) ∧ (-1000000000 ≤ y ∧ y ≤ 1000000000) ∧ y * y ≤ 1000000000000000000 / d := by simp [plB, inR]
def smB (x y : Int) : Bool := decide ((x.natAbs : Int) ≤ 1000000000) && decide ((y.natAbs : Int) ≤ 1000000000)
theorem smB_true {x y : Int} : smB x y = true ↔ (x.natAbs : Int) ≤ 1000000000 ∧ (y.natAbs : Int) ≤ 1000000000 := by simp [smB]
/-- The program's way: a pair that is not plain ends it. -/
def unI (d : Int) : List Int → Int → Int → Int → Int → Option (Int × Int)
  | [], x, y, _, _ => some (x, y)
  | t :: ts, x, y, x0, y0 => if plB d (t * x + x0) (t * y + y0) = true then unI d ts (t * x + x0) (t * y + y0) x y else none
/-- The reference's way: numbers that are too great end it. -/
def unS : List Int → Int → Int → Int → Int → Option (Int × Int)
  | [], x, y, _, _ => some (x, y)
  | t :: ts, x, y, x0, y0 => if smB (t * x + x0) (t * y + y0) = true then unS ts (t * x + x0) (t * y + y0) x y else none
/-- Numbers that rise. -/
def MonU (x y x0 y0 : Int) : Prop := 0 ≤ x0 ∧ x0 ≤ x ∧ 0 ≤ y0 ∧ y0 ≤ y
theorem MonU.step {x y x0 y0 t : Int} (h : MonU x y x0 y0) (ht : 1 ≤ t) : MonU (t * x + x0) (t * y + y0) x y ∧ x ≤ t * x + x0 ∧ y ≤ t * y + y0 := by
  obtain ⟨a, b, c, d⟩ := h
  have h1 := Int.mul_le_mul_of_nonneg_right ht (show 0 ≤ x by omega)
  have h2 := Int.mul_le_mul_of_nonneg_right ht (show 0 ≤ y by omega)
  exact ⟨⟨by omega, by omega, by omega, by omega⟩, by omega, by omega⟩
theorem plB_down {d x y x' y' : Int} (h : plB d x' y' = true) (h1 : 0 ≤ x) (h2 : x ≤ x') (h3 : 0 ≤ y) (h4 : y ≤ y') : plB d x y = true := by
  obtain ⟨⟨a, b⟩, ⟨c, e⟩, f⟩ := plB_true.1 h
  have := sq_mono h3 h4
  exact plB_true.2 ⟨⟨by omega, by omega⟩, ⟨by omega, by omega⟩, by omega⟩
theorem unS_not (d : Int) : ∀ (ts : List Int) (x y x0 y0 : Int), MonU x y x0 y0 → (∀ t ∈ ts, 1 ≤ t) → plB d x y = false → (unS ts x y x0 y0).filter (fun p => plB d p.1 p.2) = none
  | [], x, y, x0, y0, _, _, h => by simp [unS, h]
  | t :: ts, x, y, x0, y0, hm, ht, h => by
    rw [unS]
    split
    · obtain ⟨h1, h2, h3⟩ := hm.step (ht t (by simp))
      refine unS_not d ts _ _ _ _ h1 (fun u hu => ht u (List.mem_cons_of_mem _ hu)) ?_
      cases hp : plB d (t * x + x0) (t * y + y0)
      · rfl
      · have := plB_down hp (by have := hm.1; have := hm.2.1; omega) h2 (by have := hm.2.2.1; have := hm.2.2.2; omega) h3
        rw [h] at this
        cases this
    · rfl
theorem unI_unS (d : Int) : ∀ (ts : List Int) (x y x0 y0 : Int), MonU x y x0 y0 → (∀ t ∈ ts, 1 ≤ t) → plB d x y = true → unI d ts x y x0 y0 = (unS ts x y x0 y0).filter (fun p => plB d p.1 p.2)
  | [], x, y, x0, y0, _, _, h => by
    show some (x, y) = if plB d x y = true then some (x, y) else none
    rw [if_pos h]
  | t :: ts, x, y, x0, y0, hm, ht, h => by
    obtain ⟨h1, h2, h3⟩ := hm.step (ht t (by simp))
    have ht' := fun u hu => ht u (List.mem_cons_of_mem _ hu)
    rw [unS, unI]
    cases hp : plB d (t * x + x0) (t * y + y0)
    · rw [if_neg (by simp)]
      split
      · exact (unS_not d ts _ _ _ _ h1 ht' hp).symm
      · rfl
    · obtain ⟨⟨a, b⟩, ⟨c, e⟩, _⟩ := plB_true.1 hp
      rw [if_pos rfl, if_pos (smB_true.2 ⟨by omega, by omega⟩)]
      exact unI_unS d ts _ _ _ _ h1 ht' hp
/-- The terms of a root behind the first one, but the last of the period. -/
def asL (d : Int) (n : Nat) : List Int := (List.range n).map fun k => flS (itS (fsS d) k)
theorem asL_pos {d : Int} (hd : NoSq d) (n : Nat) : ∀ t ∈ asL d n, 1 ≤ t ∧ t ≤ 2000 := fun t ht => by
  unfold asL at ht
  obtain ⟨k, _, rfl⟩ := List.mem_map.1 ht
  obtain ⟨r1, r2, _, _⟩ := hd.rt
  have hr := red_it hd (red_first hd) k
  obtain ⟨_, h1, h2, _⟩ := red_fl hr
  obtain ⟨_, _, h3, h4, _⟩ := hr
  refine ⟨h1, ?_⟩
  have := Int.mul_le_mul_of_nonneg_left h4 (show 0 ≤ flS (itS (fsS d) k) by omega)
  omega
theorem cyL_terms {d : Int} (hd : NoSq d) (n : Nat) : (cyL d n).map flS = rtI d :: asL d n := by
  unfold cyL asL
  rw [List.map_cons, (next_root hd).1, List.map_map]
  rfl
theorem asL_length (d : Int) (n : Nat) : (asL d n).length = n := by simp [asL]
/-- How long the period of a root is. -/
noncomputable def pdN (d : Int) : Nat := open Classical in if h : ∃ n, 1 ≤ n ∧ n ≤ 398 ∧ itS (fsS d) n = fsS d ∧ ∀ k, 1 ≤ k → k < n → itS (fsS d) k ≠ fsS d then Classical.choose h else 1
theorem pdN_spec {d : Int} (h1 : 2 ≤ d) (h2 : d ≤ 10000) (h3 : sqB d = false) : 1 ≤ pdN d ∧ pdN d ≤ 398 ∧ itS (fsS d) (pdN d) = fsS d ∧ (∀ k, 1 ≤ k → k < pdN d → itS (fsS d) k ≠ fsS d) ∧ perOf (0, d, 1) = some (cyL d (pdN d), 1) := by
  have hc := root_cycle h1 h2 h3
  have hs := Classical.choose_spec hc
  have e : pdN d = Classical.choose hc := by unfold pdN; rw [dif_pos hc]
  rw [← e] at hs
  exact ⟨hs.1, hs.2.1, hs.2.2.1, hs.2.2.2, per_root ⟨h1, by omega, h3⟩ hs.1 hs.2.1 hs.2.2.1 hs.2.2.2⟩
/-- The least unit, if it is plain. -/
noncomputable def unR (d : Int) : Option (Int × Int) := unI d (asL d (pdN d - 1)) (rtI d) 1 1 0
def pcC (d : Int) : Int := if inR d 2 10000 = true then (if sqB d = true then 6 else 0) else 2
theorem pcC_zero {d : Int} (h : pcC d = 0) : 2 ≤ d ∧ d ≤ 10000 ∧ sqB d = false := by
  unfold pcC at h
  split at h
  · rename_i hi
    obtain ⟨a, b⟩ := inR_true.1 hi
    split at h
    · omega
    · rename_i hs
      exact ⟨a, b, by simpa using hs⟩
  · omega
theorem rt_99 {d : Int} (h1 : 2 ≤ d) (h2 : d ≤ 10000) (h3 : sqB d = false) : 1 ≤ rtI d ∧ rtI d ≤ 99 := by
  obtain ⟨r1, r2, r3, r4⟩ := rt_small h1 (by omega) h3
  refine ⟨r1, ?_⟩
  rcases Int.lt_or_le 99 (rtI d) with g | g
  · have := sq_mono (a := 100) (b := rtI d) (by omega) (by omega)
    omega
  · exact g
theorem plain_root {d : Int} (h1 : 2 ≤ d) (h2 : d ≤ 10000) (h3 : sqB d = false) : plB d (rtI d) 1 = true := by
  obtain ⟨r1, r2⟩ := rt_99 h1 h2 h3
  refine plB_true.2 ⟨⟨by omega, by omega⟩, ⟨by omega, by omega⟩, ?_⟩
  have : (1 : Int) ≤ 1000000000000000000 / d := Int.le_ediv_of_mul_le (by omega) (by omega)
  omega
theorem unR_S {d : Int} (h1 : 2 ≤ d) (h2 : d ≤ 10000) (h3 : sqB d = false) : unR d = (unS (rtI d :: asL d (pdN d - 1)) 1 0 0 1).filter (fun p => plB d p.1 p.2) := by
  obtain ⟨r1, r2⟩ := rt_99 h1 h2 h3
  unfold unR
  rw [unI_unS d _ _ _ _ _ ⟨by omega, r1, by omega, by omega⟩ (fun t ht => (asL_pos ⟨h1, by omega, h3⟩ _ t ht).1) (plain_root h1 h2 h3)]
  rw [unS, if_pos (smB_true.2 ⟨by omega, by omega⟩)]
  simp
end Go.Proofs.YtpgkellmhlmjeaaGreatDoor
namespace Go.Proofs.YtpgkellmhlmjeaaGreatDoor
open Go.RowKit Go.Sort
@[reducible] def certV (k : Int) (A : Option Addr) (n c : Nat) : Value := .agg #[.int .i64 k, .slice A n c]
theorem sSameCertificate_any (j k : Int) (A B : Option Addr) (c d : Nat) (xs ys : List Int) (w : World) (hx : Rd (Value.int .i64) w w.heap.size A xs) (hy : Rd (Value.int .i64) w w.heap.size B ys) (hm : xs.length ≤ maxLen) (hm' : ys.length ≤ maxLen) :
    Calls Tryz.prog 65 #[certV j A xs.length c, certV k B ys.length d] w fun e w' => e = .returned (.bool (decide (j = k ∧ xs = ys))) ∧ Below w.heap.size w w' := by
  have hx2 : ∀ o1 o2 : Obj, Rd (Value.int .i64) ((w.alloc o1).alloc o2) ((w.alloc o1).alloc o2).heap.size A xs := fun o1 o2 => (hx.below (ext_alloc (ext_alloc (Below.refl _ _) o1) o2)).more (by simp; omega)
  have hy2 : ∀ o1 o2 : Obj, Rd (Value.int .i64) ((w.alloc o1).alloc o2) ((w.alloc o1).alloc o2).heap.size B ys := fun o1 o2 => (hy.below (ext_alloc (ext_alloc (Below.refl _ _) o1) o2)).more (by simp; omega)
  have HX := Lib.hid hx2
  have HY := Lib.hid hy2
  clear hx2 hy2
  by_cases hjk : j = k
  · subst hjk
    unfold certV
    go_enter Tryz.func65, Tryz.ntmps65
    go_wp2_with fail
    refine (l00Same_any A B c d xs ys _ (HX.out _ _) (HY.out _ _) hm hm').mono ?_
    rintro e w1 ⟨rfl, hb1⟩
    go_wp2
    go_ret
    exact ⟨ret_bool (by simp), ext_trans (ext_alloc (ext_alloc (Below.refl _ _) _) _) hb1⟩
  · have h1 : (j == k) = false := by simpa using hjk
    unfold certV
    go_enter Tryz.func65, Tryz.ntmps65
    go_wp2
    go_ret
    exact ⟨ret_bool (by simp [hjk]), ext_alloc (ext_alloc (Below.refl _ _) _) _⟩
/-- What a call returns that makes a certificate, and a code. -/
def RetCertC (w : World) (k : Int) (xs : List Int) (code : Int) (e : Ending) (w' : World) : Prop :=
  ∃ A c, e = .returned (.tuple #[certV k A xs.length c, .int .i64 code]) ∧ Wr (Value.int .i64) w' w.heap.size A xs ∧ (xs.length ≤ c ∧ c ≤ maxLen) ∧ Below w.heap.size w w'
end Go.Proofs.YtpgkellmhlmjeaaGreatDoor
namespace Go.Proofs.YtpgkellmhlmjeaaGreatDoor
open Go.RowKit Go.Sort
/-- A number that may stand in a certificate. -/
def modB (n : Int) : Bool := inR n (-1000000000) 1000000000
theorem modB_true {n : Int} : modB n = true ↔ -1000000000 ≤ n ∧ n ≤ 1000000000 := inR_true
theorem isModerate_any (n : Int) (w : World) : Calls Tryz.prog 51 #[.int .i64 n] w fun e w' => e = .returned (.bool (modB n)) ∧ w = w' := by
  go_enter Tryz.func51, Tryz.ntmps51
  go_wp2_with (go_at_call 70; refine (within_any _ _ _ _).mono ?_; rintro e w' ⟨rfl, rfl⟩)
  go_ret
  exact ⟨rfl, rfl⟩
theorem l26Num_any (n : Int) (w : World) : Calls Tryz.prog 125 #[.int .i64 n] w fun e w' => e = .returned (.bool (modB n)) ∧ w = w' := by
  go_enter Tryz.func125, Tryz.ntmps125
  go_wp2_with (go_at_call 38; refine (l00In_any _ _ _ _).mono ?_; rintro e w' ⟨rfl, rfl⟩)
  go_ret
  exact ⟨rfl, rfl⟩
theorem tmod_bd1 {c g : Int} (hg : 0 < g) (h1 : -1000000000 ≤ c) (h2 : c ≤ 1000000000) : -1000000000 ≤ c.tmod g ∧ c.tmod g ≤ 1000000000 := by
  rcases Int.lt_or_le c 0 with h | h
  · have e1 : c.tmod g = -((-c) % g) := by
      rw [← Int.tmod_eq_emod_of_nonneg (by omega), Int.neg_tmod]; omega
    have a1 := Int.emod_nonneg (-c) (b := g) (by omega)
    have a2 : (-c) % g ≤ -c := by
      have h3 := Int.mul_ediv_add_emod (-c) g
      have h4 := Int.mul_nonneg (show 0 ≤ g by omega) (Int.ediv_nonneg (show 0 ≤ -c by omega) (show 0 ≤ g by omega))
      omega
    omega
  · rw [Int.tmod_eq_emod_of_nonneg h]
    have a1 := Int.emod_nonneg c (b := g) (by omega)
    have a2 : c % g ≤ c := by
      have h3 := Int.mul_ediv_add_emod c g
      have h4 := Int.mul_nonneg (show 0 ≤ g by omega) (Int.ediv_nonneg (show 0 ≤ c by omega) (show 0 ≤ g by omega))
      omega
    omega
/-- ProveLinear: the code and the numbers. -/
def linC (a b c : Int) : Int := if (modB a && modB b && modB c) = true then (if Int.gcd a b = 0 ∨ c % (Int.gcd a b : Int) = 0 then 6 else 0) else 2
def linK (a b c : Int) : Int := if linC a b c = 0 then 3 else 0
def linX (a b c : Int) : List Int := if linC a b c = 0 then [a, b, c, Int.gcd a b] else []
theorem iProveLinear_any_bad (a b c : Int) (w : World) (h : (modB a && modB b && modB c) = false) :
    Calls Tryz.prog 22 #[.int .i64 a, .int .i64 b, .int .i64 c] w (RetCertC w (linK a b c) (linX a b c) (linC a b c)) := by
  have e1 : linC a b c = 2 := by simp [linC, h]
  have e2 : linK a b c = 0 := by simp [linK, e1]
  have e3 : linX a b c = [] := by simp [linX, e1]
  rw [e1, e2, e3]
  clear e1 e2 e3
  cases ha : modB a
  · go_enter Tryz.func22, Tryz.ntmps22
    go_wp2_with (go_at_call 51; refine (isModerate_any _ _).mono ?_; rintro e w' ⟨rfl, rfl⟩)
    exact bodyPost_ret (v := .tuple #[certV 0 none 0 0, .int .i64 2]) (by simp [results, Tryz.results22, go_sem]; done) rfl ⟨none, 0, rfl, fun h => absurd h (by simp), ⟨Nat.le_refl _, Nat.zero_le _⟩, ext_alloc (Below.refl _ _) _⟩
  · cases hb : modB b
    · go_enter Tryz.func22, Tryz.ntmps22
      go_wp2_with (go_at_call 51; refine (isModerate_any _ _).mono ?_; rintro e w' ⟨rfl, rfl⟩)
      exact bodyPost_ret (v := .tuple #[certV 0 none 0 0, .int .i64 2]) (by simp [results, Tryz.results22, go_sem]; done) rfl ⟨none, 0, rfl, fun h => absurd h (by simp), ⟨Nat.le_refl _, Nat.zero_le _⟩, ext_alloc (Below.refl _ _) _⟩
    · rw [ha, hb] at h
      have hc : modB c = false := by simpa using h
      clear h
      go_enter Tryz.func22, Tryz.ntmps22
      go_wp2_with (go_at_call 51; refine (isModerate_any _ _).mono ?_; rintro e w' ⟨rfl, rfl⟩)
      exact bodyPost_ret (v := .tuple #[certV 0 none 0 0, .int .i64 2]) (by simp [results, Tryz.results22, go_sem]; done) rfl ⟨none, 0, rfl, fun h => absurd h (by simp), ⟨Nat.le_refl _, Nat.zero_le _⟩, ext_alloc (Below.refl _ _) _⟩
theorem set_alloc {w : World} {b : Nat} {x y : Value} (hb : b < w.heap.size) (h0 : w.cell? ⟨b, 0, none⟩ = some x) (h1 : w.cell? ⟨b, 1, none⟩ = some y) :
    (∀ u v o, (((w.setCell ⟨b, 0, none⟩ u).setCell ⟨b, 1, none⟩ v).alloc o).cell? ⟨b, 0, none⟩ = some u) ∧ (∀ u v o, (((w.setCell ⟨b, 0, none⟩ u).setCell ⟨b, 1, none⟩ v).alloc o).cell? ⟨b, 1, none⟩ = some v) := by
  obtain ⟨s0, s1⟩ := set_two h0 h1
  refine ⟨fun u v o => ?_, fun u v o => ?_⟩
  · refine (World.cell?_alloc_lt _ _ _ (by simpa using hb)).trans ?_
    exact (World.cell?_setCell_other _ ⟨b, 1, none⟩ ⟨b, 0, none⟩ _ (by simp)).trans (s0 u)
  · exact (World.cell?_alloc_lt _ _ _ (by simpa using hb)).trans (s1 u v)
/-- A new slice of integers. -/
theorem Wr.lit' {xs : List Int} {C : Array Value} {E : TypeId} {g : Nat} (w : World) (hg : g = w.heap.size) (h : C.toList = xs.map (Value.int .i64)) : Wr (Value.int .i64) (w.alloc (.cells C E)) g (some ⟨g, 0, none⟩) xs := by
  subst hg
  exact fun _ => ⟨w.heap.size, 0, rfl, Nat.le_refl _, by simp, fun j x hx => by
    rw [Nat.zero_add, cell_one, ← Array.getElem?_toList, h, List.getElem?_map, hx]; rfl, fun j => World.frozen?_alloc_at _ _ _ _ rfl⟩
set_option maxHeartbeats 1000000 in
theorem iProveLinear_any (a b c : Int) (w : World) :
    Calls Tryz.prog 22 #[.int .i64 a, .int .i64 b, .int .i64 c] w (RetCertC w (linK a b c) (linX a b c) (linC a b c)) := by
  cases hm : (modB a && modB b && modB c)
  · exact iProveLinear_any_bad a b c w hm
  obtain ⟨⟨ha, hb⟩, hc⟩ : (modB a = true ∧ modB b = true) ∧ modB c = true := by simpa using hm
  obtain ⟨a1, a2⟩ := modB_true.1 ha
  obtain ⟨b1, b2⟩ := modB_true.1 hb
  obtain ⟨c1, c2⟩ := modB_true.1 hc
  have HG : Hid (∀ W, Calls Tryz.prog 55 #[.int .i64 a, .int .i64 b] W fun e w' => e = .returned (.int .i64 (Int.gcd a b : Int)) ∧ Below W.heap.size W w') := fun W => gcd_any a b W (by omega) (by omega) (by omega) (by omega)
  by_cases h0 : Int.gcd a b = 0 ∨ c % (Int.gcd a b : Int) = 0
  · have e1 : linC a b c = 6 := by unfold linC; rw [if_pos hm, if_pos h0]
    have e2 : linK a b c = 0 := by simp [linK, e1]
    have e3 : linX a b c = [] := by simp [linX, e1]
    rw [e1, e2, e3]
    clear e1 e2 e3
    obtain ⟨g, hg⟩ : ∃ g : Nat, Int.gcd a b = g := ⟨_, rfl⟩
    rw [hg] at HG h0
    clear hg
    by_cases hg0 : g = 0
    · subst hg0
      clear h0 hm
      go_enter Tryz.func22, Tryz.ntmps22
      go_wp2_with (go_at_call 51; refine (isModerate_any _ _).mono ?_; rintro e w' ⟨rfl, rfl⟩)
      refine (HG.out _).mono ?_
      rintro e w1 ⟨rfl, hb1⟩
      have hz1 : w.heap.size < w1.heap.size := by have := hb1.size; simp at this; omega
      have m0 : w1.cell? ⟨w.heap.size, 0, none⟩ = some (.int .i64 0) := (hb1.cell (p := ⟨w.heap.size, 0, none⟩) (by simp)).trans (cell_one _ _ _ _)
      have m1 : w1.cell? ⟨w.heap.size, 1, none⟩ = some (.slice none 0 0) := (hb1.cell (p := ⟨w.heap.size, 1, none⟩) (by simp)).trans (cell_one _ _ _ _)
      obtain ⟨s0, s1⟩ := set_two m0 m1
      obtain ⟨hc1, hf1⟩ := bcell hb1
      go_wp2
      exact bodyPost_ret (v := .tuple #[certV 0 none 0 0, .int .i64 6]) (by simp [results, Tryz.results22, go_sem, s0, s1]; done) rfl ⟨none, 0, rfl, fun h => absurd h (by simp), ⟨Nat.le_refl _, Nat.zero_le _⟩, ext_set (ext_set (ext_trans (ext_alloc (Below.refl _ _) _) hb1) (Nat.le_refl _) _) (Nat.le_refl _) _⟩
    · have hgp : 0 < (g : Int) := by omega
      have hg1 : ((g : Int) == 0) = false := by simp; omega
      have h1 : c % (g : Int) = 0 := by rcases h0 with h | h; exact absurd h hg0; exact h
      have ht : c.tmod (g : Int) = 0 := Int.tmod_eq_zero_of_dvd (Int.dvd_of_emod_eq_zero h1)
      clear h0 hm h1
      go_enter Tryz.func22, Tryz.ntmps22
      go_wp2_with (go_at_call 51; refine (isModerate_any _ _).mono ?_; rintro e w' ⟨rfl, rfl⟩)
      refine (HG.out _).mono ?_
      rintro e w1 ⟨rfl, hb1⟩
      have hz1 : w.heap.size < w1.heap.size := by have := hb1.size; simp at this; omega
      have m0 : w1.cell? ⟨w.heap.size, 0, none⟩ = some (.int .i64 0) := (hb1.cell (p := ⟨w.heap.size, 0, none⟩) (by simp)).trans (cell_one _ _ _ _)
      have m1 : w1.cell? ⟨w.heap.size, 1, none⟩ = some (.slice none 0 0) := (hb1.cell (p := ⟨w.heap.size, 1, none⟩) (by simp)).trans (cell_one _ _ _ _)
      obtain ⟨s0, s1⟩ := set_two m0 m1
      obtain ⟨hc1, hf1⟩ := bcell hb1
      go_wp2
      exact bodyPost_ret (v := .tuple #[certV 0 none 0 0, .int .i64 6]) (by simp [results, Tryz.results22, go_sem, s0, s1]; done) rfl ⟨none, 0, rfl, fun h => absurd h (by simp), ⟨Nat.le_refl _, Nat.zero_le _⟩, ext_set (ext_set (ext_trans (ext_alloc (Below.refl _ _) _) hb1) (Nat.le_refl _) _) (Nat.le_refl _) _⟩
  · have e1 : linC a b c = 0 := by unfold linC; rw [if_pos hm, if_neg h0]
    have e2 : linK a b c = 3 := by simp [linK, e1]
    have e3 : linX a b c = [a, b, c, Int.gcd a b] := by simp [linX, e1]
    rw [e1, e2, e3]
    clear e1 e2 e3
    obtain ⟨g, hg⟩ : ∃ g : Nat, Int.gcd a b = g := ⟨_, rfl⟩
    rw [hg] at HG h0 ⊢
    clear hg
    have hg0 : g ≠ 0 := fun h => h0 (.inl h)
    have h1 : ¬ c % (g : Int) = 0 := fun h => h0 (.inr h)
    have hgp : 0 < (g : Int) := by omega
    have hg1 : ((g : Int) == 0) = false := by simp; omega
    obtain ⟨r1, r2⟩ := tmod_bd1 (c := c) hgp (by omega) (by omega)
    have ht0 : c.tmod (g : Int) ≠ 0 := fun h => h1 (Int.emod_eq_zero_of_dvd (Int.dvd_of_tmod_eq_zero h))
    generalize hr : c.tmod (g : Int) = r at r1 r2 ht0
    have hr0 : (r == 0) = false := by simpa using ht0
    have hrw : IntKind.i64.wrap r = r := IntWalk.i64_in _ (by omega)
    clear h0 hm h1 ht0
    go_enter Tryz.func22, Tryz.ntmps22
    go_wp2_with (go_at_call 51; refine (isModerate_any _ _).mono ?_; rintro e w' ⟨rfl, rfl⟩)
    refine (HG.out _).mono ?_
    rintro e w1 ⟨rfl, hb1⟩
    obtain ⟨hc1, hf1⟩ := bcell hb1
    have hz1 : w.heap.size < w1.heap.size := by have := hb1.size; simp at this; omega
    have m0 : w1.cell? ⟨w.heap.size, 0, none⟩ = some (.int .i64 0) := (hc1 _ _ (by simp)).trans (cell_one _ _ _ _)
    have m1 : w1.cell? ⟨w.heap.size, 1, none⟩ = some (.slice none 0 0) := (hc1 _ _ (by simp)).trans (cell_one _ _ _ _)
    obtain ⟨s0, s1⟩ := set_alloc hz1 m0 m1
    go_wp2
    refine bodyPost_ret (v := .tuple #[certV 3 (some ⟨w1.heap.size, 0, none⟩) 4 4, .int .i64 0]) (by simp [results, Tryz.results22, go_sem, s0, s1]; done) rfl ⟨_, _, rfl, ?_, ⟨by simp, by unfold maxLen; omega⟩, ?_⟩
    · exact (Wr.lit' _ (xs := [a, b, c, (g : Int)]) (by simp) rfl).more (by omega)
    · exact ext_alloc (ext_set (ext_set (ext_trans (ext_alloc (Below.refl _ _) _) hb1) (Nat.le_refl _) _) (Nat.le_refl _) _) _
end Go.Proofs.YtpgkellmhlmjeaaGreatDoor
