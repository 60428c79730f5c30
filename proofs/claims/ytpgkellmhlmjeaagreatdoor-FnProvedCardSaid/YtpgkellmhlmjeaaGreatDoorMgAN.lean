/- Parts of the proof, merged: CheckAW PrvP CheckBW. No condition but those that each theorem names. -/
import Derived.Test.YtpgkellmhlmjeaaGreatDoorMgAJ
import Derived.Test.YtpgkellmhlmjeaaGreatDoorMgAD
import Derived.Test.YtpgkellmhlmjeaaGreatDoorMgAK
import Derived.Test.YtpgkellmhlmjeaaGreatDoorMgAL
import Derived.Test.YtpgkellmhlmjeaaGreatDoorMgAM
import Derived.Deep.DeepCutAuto
namespace Go.Proofs.YtpgkellmhlmjeaaGreatDoor
open Go.RowKit Go.Sort
theorem below_drewN' {B n : Nat} {w w' : World} (h : Below B w w') : Below B w (w'.drewN n) := ⟨h.os, h.tape, h.output, h.size, h.block⟩
/-- A certificate has a kind, and not too many and not too great numbers. -/
def nbB (xs : List Int) : Bool := decide (xs.length ≤ 420) && xs.all modB
def bdC (kk : Int) (xs : List Int) : Bool := inR kk 1 6 && nbB xs
theorem nbB_all {xs : List Int} (h : nbB xs = true) : xs.length ≤ 420 ∧ ∀ x ∈ xs, -1000000000 ≤ x ∧ x ≤ 1000000000 := by
  unfold nbB at h
  rw [Bool.and_eq_true, decide_eq_true_iff] at h
  exact ⟨h.1, fun x hx => modB_true.1 (List.all_eq_true.1 h.2 x hx)⟩
theorem bcF_any (x : Int) (w : World) : Calls Tryz.prog 77 #[.int .i64 x] w fun e w' => e = .returned (.bool (!modB x)) ∧ w = w' := by
  go_enter Tryz.func77, Tryz.ntmps77
  go_wp2_with (go_at_call 51; refine (isModerate_any _ _).mono ?_; rintro e w' ⟨rfl, rfl⟩)
  go_ret
  exact ⟨rfl, rfl⟩
set_option maxHeartbeats 1000000 in
theorem isBoundedCert_any (kk : Int) (A : Option Addr) (c : Nat) (xs : List Int) (w : World) (hx : Rd (Value.int .i64) w w.heap.size A xs) (hm : xs.length ≤ maxLen) :
    Calls Tryz.prog 35 #[certV kk A xs.length c] w fun e w' => e = .returned (.bool (bdC kk xs)) ∧ Below w.heap.size w w' := by
  have HX : Hid (Rd (Value.int .i64) (w.alloc (.cells #[.int .i64 kk, .slice A xs.length c] 26)) (w.alloc (.cells #[.int .i64 kk, .slice A xs.length c] 26)).heap.size A xs) := (hx.below (ext1 _ _)).more (by simp)
  have HC := Lib.hid (containsFuncBC_any (fun x => !modB x) (fun x W => bcF_any x W) A c xs _ HX.out hm)
  have HA : Hid (xs.any (fun x => !modB x) = !xs.all modB) := by unfold Hid; rw [List.all_eq_not_any_not]; simp
  have HB : Hid (bdC kk xs = (inR kk 1 6 && (decide (xs.length ≤ 420) && xs.all modB))) := rfl
  rw [HA.out] at HC
  rw [HB.out]
  clear hx HA HB
  generalize xs.all modB = al at *
  unfold certV
  cases h1 : inR kk 1 6
  · go_enter Tryz.func35, Tryz.ntmps35
    go_wp2_with (go_at_call 70; (with_reducible refine (within_is h1 _).mono ?_); rintro e w' ⟨rfl, rfl⟩)
    go_ret
    exact ⟨rfl, ext1 _ _⟩
  · by_cases h2 : xs.length ≤ 420
    · have d2 : decide ((xs.length : Int) ≤ 420) = true := by simp; omega
      have d2n : decide (xs.length ≤ 420) = true := by simp; omega
      rw [d2n]
      go_enter Tryz.func35, Tryz.ntmps35
      go_wp2_with (first | (go_at_call 70; (with_reducible refine (within_is h1 _).mono ?_); rintro e w' ⟨rfl, rfl⟩) | (go_at_call 76; (with_reducible refine HC.out.mono ?_); rintro e w' ⟨rfl, rfl⟩))
      go_ret
      exact ⟨ret_bool (by simp), ext1 _ _⟩
    · have d2 : decide ((xs.length : Int) ≤ 420) = false := by simp; omega
      have d2n : decide (xs.length ≤ 420) = false := by simp; omega
      rw [d2n]
      go_enter Tryz.func35, Tryz.ntmps35
      go_wp2_with (first | (go_at_call 70; (with_reducible refine (within_is h1 _).mono ?_); rintro e w' ⟨rfl, rfl⟩))
      go_ret
      exact ⟨rfl, ext1 _ _⟩
set_option maxHeartbeats 1000000 in
theorem l26Fits_any (g : Nat) (A : Option Addr) (c : Nat) (xs : List Int) (w : World) (hx : Rd (Value.int .i64) w w.heap.size A xs) (hm : xs.length ≤ maxLen) (c1 : w.cell? ⟨g, 1, none⟩ = some (.slice A xs.length c)) :
    Calls Tryz.prog 78 #[.pointer (some ⟨g, 0, none⟩)] w fun e w' => e = .returned (.bool (nbB xs)) ∧ w = w' := by
  unfold maxLen at hm
  have HX := Lib.hid hx
  clear hx
  go_enter Tryz.func78, Tryz.ntmps78
  go_wp2_with fail
  go_loop [3] (fun t => ∃ k : Nat, k ≤ xs.length ∧ t = .int .i64 k ∧ Hid ((xs.take k).all modB = true)) (fun t => xs.length - (intOf t).toNat)
  case atStart => exact ⟨0, by omega, rfl, by simp [Hid]⟩
  case round =>
    obtain ⟨k, hk, rfl, HK⟩ := hrel
    by_cases hlt : k < xs.length
    · obtain ⟨b, off, rfl, hb, hc⟩ := HX.out (by omega)
      obtain ⟨x, hxk⟩ : ∃ x, xs[k]? = some x := ⟨_, List.getElem?_eq_getElem hlt⟩
      have cx := hc k x hxk
      have i0 : (0 : Int) ≤ (k : Int) := by omega
      have i1 : (k : Int) < (xs.length : Int) := by omega
      have HM := Lib.hid (fun W : World => l26Num_any x W)
      cases hmd : modB x
      · have HE : Hid (nbB xs = false) := by
          unfold Hid nbB
          rw [allN hxk hmd, Bool.and_false]
        rw [hmd] at HM
        clear hc hxk hmd
        go_wp2_with (go_at_call 125; (with_reducible refine (HM.out _).mono ?_); rintro e w' ⟨rfl, rfl⟩)
        go_ret
        exact ⟨ret_bool HE.out.symm, rfl⟩
      · have HE := Lib.hid (allT HK.out hxk hmd)
        rw [hmd] at HM
        clear hc hxk hmd
        go_wp2_with (go_at_call 125; (with_reducible refine (HM.out _).mono ?_); rintro e w' ⟨rfl, rfl⟩)
        go_round
        case rel => exact ⟨k + 1, by omega, by go_num, HE.out⟩
        case measure => simp [intOf]; omega
    · have HE : Hid (decide (xs.length ≤ 420) = nbB xs) := by
        have h := HK.out
        rw [List.take_of_length_le (by omega)] at h
        unfold Hid nbB
        rw [h, Bool.and_true]
      have i1 : ¬ (k : Int) < (xs.length : Int) := by omega
      go_wp2
      go_ret
      exact ⟨ret_bool (HE.out ▸ (by rw [Bool.eq_iff_iff]; simp; omega)), rfl⟩
theorem tmod_m {c g : Int} (hg : 0 < g) (h1 : -1000000000 ≤ c) (h2 : c ≤ 1000000000) : IntKind.i64.wrap (c.tmod g) = c.tmod g := IntWalk.i64_in _ (by have := tmod_bd1 hg h1 h2; omega)
theorem mulm {x y : Int} (h1 : -1000000000 ≤ x ∧ x ≤ 1000000000) (h2 : -1000000000 ≤ y ∧ y ≤ 1000000000) : -1000000000000000000 ≤ x * y ∧ x * y ≤ 1000000000000000000 := by
  have := mul_bd (x := x) (y := y) (M := 1000000000) (N := 1000000000) (by omega) h1.2 (by omega) h2.2 h1.1 h2.1
  omega
set_option maxRecDepth 100000 in
set_option maxHeartbeats 2000000 in
theorem l26Gcd_any (A : Option Addr) (c : Nat) (xs : List Int) (w : World) (hx : Rd (Value.int .i64) w w.heap.size A xs) (hb : ∀ x ∈ xs, -1000000000 ≤ x ∧ x ≤ 1000000000) (hm : xs.length ≤ 420) :
    Calls Tryz.prog 79 #[.slice A xs.length c] w fun e w' => e = .returned (.bool (gcB xs)) ∧ Below w.heap.size w w' := by
  have HE := Lib.hid (Below.refl w.heap.size w)
  by_cases hl : xs.length = 5
  · obtain ⟨a, b, g, x, y, rfl⟩ := len5 hl
    obtain ⟨bb, off, rfl, hbb, hc⟩ := hx (by simp)
    have c0 := hc 0 a rfl
    have c1 := hc 1 b rfl
    have c2 := hc 2 g rfl
    have c3 := hc 3 x rfl
    have c4 := hc 4 y rfl
    rw [Nat.add_zero] at c0
    obtain ⟨a1, a2⟩ := hb a (by simp)
    obtain ⟨b1, b2⟩ := hb b (by simp)
    obtain ⟨g1, g2⟩ := hb g (by simp)
    obtain ⟨x1, x2⟩ := hb x (by simp)
    obtain ⟨y1, y2⟩ := hb y (by simp)
    have HG : Hid (gcB [a, b, g, x, y] = (decide (1 ≤ g) && (a.tmod g == 0 && (b.tmod g == 0 && (a * x + b * y == g))))) := rfl
    obtain ⟨m1, m2⟩ := mulm ⟨a1, a2⟩ ⟨x1, x2⟩
    obtain ⟨m3, m4⟩ := mulm ⟨b1, b2⟩ ⟨y1, y2⟩
    have v1 : IntKind.i64.wrap (a * x) = a * x := IntWalk.i64_in _ (by omega)
    have v2 : IntKind.i64.wrap (b * y) = b * y := IntWalk.i64_in _ (by omega)
    have v3 : IntKind.i64.wrap (a * x + b * y) = a * x + b * y := IntWalk.i64_in _ (by omega)
    rw [HG.out]
    clear hc hb hx HG hl
    by_cases hg : 1 ≤ g
    · have d1 : decide (1 ≤ g) = true := by simpa using hg
      have v4 := tmod_m (c := a) (g := g) (by omega) a1 a2
      have v5 := tmod_m (c := b) (g := g) (by omega) b1 b2
      have e0 : ¬ (g = 0) := by omega
      rw [d1]
      cases t1 : (a.tmod g == 0)
      · go_enter Tryz.func79, Tryz.ntmps79
        go_wp2_with fail
        go_quiet (fail)
        go_wp2
        go_ret
        exact ⟨rfl, below_drewN' HE.out⟩
      · cases t2 : (b.tmod g == 0)
        · go_enter Tryz.func79, Tryz.ntmps79
          go_wp2_with fail
          go_quiet (fail)
          go_wp2
          go_ret
          exact ⟨rfl, below_drewN' HE.out⟩
        · go_enter Tryz.func79, Tryz.ntmps79
          go_wp2_with fail
          go_quiet (fail)
          go_wp2
          go_ret
          exact ⟨rfl, below_drewN' HE.out⟩
    · have d1 : decide (1 ≤ g) = false := by simpa using hg
      rw [d1]
      go_enter Tryz.func79, Tryz.ntmps79
      go_wp2_with fail
      go_quiet (fail)
      go_wp2
      go_ret
      exact ⟨rfl, below_drewN' HE.out⟩
  · have HG := Lib.hid (gcB_len hl)
    have d0 : ((xs.length : Int) == 5) = false := by simp; omega
    rw [HG.out]
    clear hl HG
    go_enter Tryz.func79, Tryz.ntmps79
    go_wp2_with fail
    go_quiet (fail)
    go_wp2
    go_ret
    exact ⟨rfl, below_drewN' HE.out⟩
set_option maxRecDepth 100000 in
set_option maxHeartbeats 2000000 in
theorem l26Linear_any (A : Option Addr) (c : Nat) (xs : List Int) (w : World) (hx : Rd (Value.int .i64) w w.heap.size A xs) (hb : ∀ x ∈ xs, -1000000000 ≤ x ∧ x ≤ 1000000000) (hm : xs.length ≤ 420) :
    Calls Tryz.prog 81 #[.slice A xs.length c] w fun e w' => e = .returned (.bool (liB xs)) ∧ Below w.heap.size w w' := by
  have HE := Lib.hid (Below.refl w.heap.size w)
  by_cases hl : xs.length = 4
  · obtain ⟨a, b, x, g, rfl⟩ := len4 hl
    obtain ⟨bb, off, rfl, hbb, hc⟩ := hx (by simp)
    have c0 := hc 0 a rfl
    have c1 := hc 1 b rfl
    have c2 := hc 2 x rfl
    have c3 := hc 3 g rfl
    rw [Nat.add_zero] at c0
    obtain ⟨a1, a2⟩ := hb a (by simp)
    obtain ⟨b1, b2⟩ := hb b (by simp)
    obtain ⟨g1, g2⟩ := hb g (by simp)
    obtain ⟨x1, x2⟩ := hb x (by simp)
    have HG : Hid (liB [a, b, x, g] = (decide (2 ≤ g) && (a.tmod g == 0 && (b.tmod g == 0 && (x.tmod g != 0))))) := rfl
    rw [HG.out]
    clear hc hb hx HG hl
    by_cases hg : 2 ≤ g
    · have d1 : decide (2 ≤ g) = true := by simpa using hg
      have v4 := tmod_m (c := a) (g := g) (by omega) a1 a2
      have v5 := tmod_m (c := b) (g := g) (by omega) b1 b2
      have v6 := tmod_m (c := x) (g := g) (by omega) x1 x2
      have e0 : ¬ (g = 0) := by omega
      rw [d1]
      cases t1 : (a.tmod g == 0)
      · go_enter Tryz.func81, Tryz.ntmps81
        go_wp2_with fail
        go_quiet (fail)
        go_wp2
        go_ret
        exact ⟨rfl, below_drewN' HE.out⟩
      · cases t2 : (b.tmod g == 0)
        · go_enter Tryz.func81, Tryz.ntmps81
          go_wp2_with fail
          go_quiet (fail)
          go_wp2
          go_ret
          exact ⟨rfl, below_drewN' HE.out⟩
        · go_enter Tryz.func81, Tryz.ntmps81
          go_wp2_with fail
          go_quiet (fail)
          go_wp2
          go_ret
          exact ⟨rfl, below_drewN' HE.out⟩
    · have d1 : decide (2 ≤ g) = false := by simpa using hg
      rw [d1]
      go_enter Tryz.func81, Tryz.ntmps81
      go_wp2_with fail
      go_quiet (fail)
      go_wp2
      go_ret
      exact ⟨rfl, below_drewN' HE.out⟩
  · have HG := Lib.hid (liB_len hl)
    have d0 : ((xs.length : Int) == 4) = false := by simp; omega
    rw [HG.out]
    clear hl HG
    go_enter Tryz.func81, Tryz.ntmps81
    go_wp2_with fail
    go_quiet (fail)
    go_wp2
    go_ret
    exact ⟨rfl, below_drewN' HE.out⟩
set_option maxRecDepth 100000 in
set_option maxHeartbeats 2000000 in
theorem l26Root_any (A : Option Addr) (c : Nat) (xs : List Int) (w : World) (hx : Rd (Value.int .i64) w w.heap.size A xs) (hb : ∀ x ∈ xs, -1000000000 ≤ x ∧ x ≤ 1000000000) (hm : xs.length ≤ 420) :
    Calls Tryz.prog 80 #[.slice A xs.length c] w fun e w' => e = .returned (.bool (roB xs)) ∧ Below w.heap.size w w' := by
  have HE := Lib.hid (Below.refl w.heap.size w)
  by_cases hl : xs.length = 2
  · obtain ⟨n, r, rfl⟩ := len2 hl
    obtain ⟨bb, off, rfl, hbb, hc⟩ := hx (by simp)
    have c0 := hc 0 n rfl
    have c1 := hc 1 r rfl
    rw [Nat.add_zero] at c0
    obtain ⟨a1, a2⟩ := hb n (by simp)
    obtain ⟨b1, b2⟩ := hb r (by simp)
    have HG : Hid (roB [n, r] = (decide (0 ≤ r) && (decide (r * r < n) && decide (n < (r + 1) * (r + 1))))) := rfl
    obtain ⟨m1, m2⟩ := mulm ⟨b1, b2⟩ ⟨b1, b2⟩
    have m5 := mul_bd (x := r + 1) (y := r + 1) (M := 1000000001) (N := 1000000001) (by omega) (by omega) (by omega) (by omega) (by omega) (by omega)
    obtain ⟨m3, m4⟩ := m5
    have v1 : IntKind.i64.wrap (r * r) = r * r := IntWalk.i64_in _ (by omega)
    have v2 : IntKind.i64.wrap (r + 1) = r + 1 := IntWalk.i64_in _ (by omega)
    have v3 : IntKind.i64.wrap ((r + 1) * (r + 1)) = (r + 1) * (r + 1) := IntWalk.i64_in _ (by omega)
    rw [HG.out]
    clear hc hb hx HG hl
    by_cases hg : 0 ≤ r
    · have d1 : decide (0 ≤ r) = true := by simpa using hg
      rw [d1]
      by_cases h2 : r * r < n
      · have d2 : decide (r * r < n) = true := by simpa using h2
        rw [d2]
        go_enter Tryz.func80, Tryz.ntmps80
        go_wp2_with fail
        go_quiet (fail)
        go_wp2
        go_ret
        exact ⟨rfl, below_drewN' HE.out⟩
      · have d2 : decide (r * r < n) = false := by simpa using h2
        rw [d2]
        go_enter Tryz.func80, Tryz.ntmps80
        go_wp2_with fail
        go_quiet (fail)
        go_wp2
        go_ret
        exact ⟨rfl, below_drewN' HE.out⟩
    · have d1 : decide (0 ≤ r) = false := by simpa using hg
      rw [d1]
      go_enter Tryz.func80, Tryz.ntmps80
      go_wp2_with fail
      go_quiet (fail)
      go_wp2
      go_ret
      exact ⟨rfl, below_drewN' HE.out⟩
  · have HG := Lib.hid (roB_len hl)
    have d0 : ((xs.length : Int) == 2) = false := by simp; omega
    rw [HG.out]
    clear hl HG
    go_enter Tryz.func80, Tryz.ntmps80
    go_wp2_with fail
    go_quiet (fail)
    go_wp2
    go_ret
    exact ⟨rfl, below_drewN' HE.out⟩
end Go.Proofs.YtpgkellmhlmjeaaGreatDoor
namespace Go.Proofs.YtpgkellmhlmjeaaGreatDoor
open Go.RowKit Go.Sort
/-- What holds on the way of Euclid's algorithm. -/
structure EuI (A B σ : Int) (r s : Nat) (x y u v : Int) : Prop where
  sg : σ = 1 ∨ σ = -1
  e1 : x * A + y * B = r
  e2 : u * A + v * B = s
  det : x * v - y * u = σ
  s1 : 0 ≤ σ * x
  s2 : σ * y ≤ 0
  s3 : σ * u ≤ 0
  s4 : 0 ≤ σ * v
  bx : -(B + 1) ≤ x ∧ x ≤ B + 1
  by_ : -(A + 1) ≤ y ∧ y ≤ A + 1
  bu : -(B + 1) ≤ u ∧ u ≤ B + 1
  bv : -(A + 1) ≤ v ∧ v ≤ A + 1
theorem eui_step {A B σ R S m q x y u v : Int} (sg : σ = 1 ∨ σ = -1) (e1 : x * A + y * B = R) (e2 : u * A + v * B = S) (det : x * v - y * u = σ) (s1 : 0 ≤ σ * x) (s2 : σ * y ≤ 0) (s3 : σ * u ≤ 0) (s4 : 0 ≤ σ * v)
    (hA : 0 ≤ A) (hB : 0 ≤ B) (hr : m = R - q * S) (hq : 0 ≤ q) (hm : 0 ≤ m) (hs1 : 1 ≤ S) :
    (-σ = 1 ∨ -σ = -1) ∧ (x - q * u) * A + (y - q * v) * B = m ∧ u * (y - q * v) - v * (x - q * u) = -σ ∧ 0 ≤ -σ * u ∧ -σ * v ≤ 0 ∧ -σ * (x - q * u) ≤ 0 ∧ 0 ≤ -σ * (y - q * v) ∧ (-(B + 1) ≤ x - q * u ∧ x - q * u ≤ B + 1) ∧ (-(A + 1) ≤ y - q * v ∧ y - q * v ≤ A + 1) := by
  have e3 : (x - q * u) * A + (y - q * v) * B = m := by grind
  have d3 : u * (y - q * v) - v * (x - q * u) = -σ := by grind
  have k1 : S * (y - q * v) - m * v = -σ * A := by grind
  have k2 : S * (x - q * u) - m * u = σ * B := by grind
  rcases sg with rfl | rfl
  · have t1 := Int.mul_nonneg hq (show 0 ≤ -u by omega)
    have t2 := Int.mul_nonneg hq (show 0 ≤ v by omega)
    have t3 := Int.mul_nonneg hm (show 0 ≤ v by omega)
    have t4 := Int.mul_nonneg hm (show 0 ≤ -u by omega)
    have e4 : q * -u = -(q * u) := by grind
    have e5 : m * -u = -(m * u) := by grind
    have g1 : 0 ≤ x - q * u := by omega
    have g2 : y - q * v ≤ 0 := by omega
    have p1 := Int.mul_le_mul_of_nonneg_right hs1 g1
    have p2 := Int.mul_le_mul_of_nonneg_right hs1 (show 0 ≤ -(y - q * v) by omega)
    have e6 : S * -(y - q * v) = -(S * (y - q * v)) := by grind
    refine ⟨.inr rfl, e3, d3, by omega, by omega, by omega, by omega, ⟨by omega, by omega⟩, ⟨by omega, by omega⟩⟩
  · have t1 := Int.mul_nonneg hq (show 0 ≤ u by omega)
    have t2 := Int.mul_nonneg hq (show 0 ≤ -v by omega)
    have t3 := Int.mul_nonneg hm (show 0 ≤ -v by omega)
    have t4 := Int.mul_nonneg hm (show 0 ≤ u by omega)
    have e4 : q * -v = -(q * v) := by grind
    have e5 : m * -v = -(m * v) := by grind
    have g1 : x - q * u ≤ 0 := by omega
    have g2 : 0 ≤ y - q * v := by omega
    have p1 := Int.mul_le_mul_of_nonneg_right hs1 g2
    have p2 := Int.mul_le_mul_of_nonneg_right hs1 (show 0 ≤ -(x - q * u) by omega)
    have e6 : S * -(x - q * u) = -(S * (x - q * u)) := by grind
    refine ⟨.inl (by decide), e3, d3, by omega, by omega, by omega, by omega, ⟨by omega, by omega⟩, ⟨by omega, by omega⟩⟩
theorem EuI.next {A B σ : Int} {r s : Nat} {x y u v : Int} (h : EuI A B σ r s x y u v) (hA : 0 ≤ A) (hB : 0 ≤ B) (hs : s ≠ 0) :
    EuI A B (-σ) s (r % s) u v (x - ((r / s : Nat) : Int) * u) (y - ((r / s : Nat) : Int) * v) := by
  have hr : ((r % s : Nat) : Int) = (r : Int) - ((r / s : Nat) : Int) * (s : Int) := by
    have := Nat.div_add_mod r s
    have h2 : ((s * (r / s) + r % s : Nat) : Int) = (r : Int) := by rw [this]
    rw [Int.natCast_add, Int.natCast_mul] at h2
    rw [Int.mul_comm]
    omega
  obtain ⟨k1, k2, k3, k4, k5, k6, k7, k8, k9⟩ := eui_step h.sg h.e1 h.e2 h.det h.s1 h.s2 h.s3 h.s4 hA hB hr (Int.natCast_nonneg _) (Int.natCast_nonneg _) (by omega)
  exact ⟨k1, h.e2, k2, k3, k4, k5, k6, k7, h.bu, h.bv, k8, k9⟩
theorem euc_ok {A B : Int} (hA : 0 ≤ A) (hB : 0 ≤ B) (hA2 : A ≤ 900000000) (hB2 : B ≤ 900000000) : ∀ (f r s : Nat) (x y u v σ : Int), s ≤ f → EuI A B σ r s x y u v →
    ∃ X Y, eucF f r s x y u v = (Nat.gcd r s, X, Y) ∧ X * A + Y * B = (Nat.gcd r s : Int) ∧ (-(B + 1) ≤ X ∧ X ≤ B + 1) ∧ (-(A + 1) ≤ Y ∧ Y ≤ A + 1)
  | 0, r, s, x, y, u, v, σ, hs, h => by
    obtain rfl : s = 0 := by omega
    exact ⟨x, y, by simp [eucF], by simpa using h.e1, h.bx, h.by_⟩
  | f + 1, r, s, x, y, u, v, σ, hs, h => by
    by_cases h0 : s = 0
    · subst h0
      exact ⟨x, y, by simp [eucF], by simpa using h.e1, h.bx, h.by_⟩
    · have hn := h.next hA hB h0
      have hm : r % s < s := Nat.mod_lt _ (by omega)
      obtain ⟨X, Y, k1, k2⟩ := euc_ok hA hB hA2 hB2 f s (r % s) _ _ _ _ _ (by omega) hn
      have hg : Nat.gcd s (r % s) = Nat.gcd r s := by
        rw [Nat.gcd_comm r s, Nat.gcd_rec s r, Nat.gcd_comm]
      rw [hg] at k1 k2
      refine ⟨X, Y, ?_, k2⟩
      obtain ⟨b1, b2⟩ := h.bx
      obtain ⟨b3, b4⟩ := h.by_
      obtain ⟨c1, c2⟩ := hn.bu
      obtain ⟨c3, c4⟩ := hn.bv
      have hd : (r : Int) / (s : Int) = ((r / s : Nat) : Int) := (Int.natCast_ediv r s).symm
      have w1 : wrap64 (((r / s : Nat) : Int) * u) = ((r / s : Nat) : Int) * u := by unfold wrap64; omega
      have w2 : wrap64 (((r / s : Nat) : Int) * v) = ((r / s : Nat) : Int) * v := by unfold wrap64; omega
      have w3 : wrap64 (x - ((r / s : Nat) : Int) * u) = x - ((r / s : Nat) : Int) * u := by unfold wrap64; omega
      have w4 : wrap64 (y - ((r / s : Nat) : Int) * v) = y - ((r / s : Nat) : Int) * v := by unfold wrap64; omega
      rw [eucF, if_neg h0, hd, w1, w2, w3, w4]
      exact k1
theorem nb_of {xs : List Int} (h : xs.length ≤ 420) (h2 : ∀ x ∈ xs, -1000000000 ≤ x ∧ x ≤ 1000000000) : nbB xs = true := by
  unfold nbB
  rw [Bool.and_eq_true, decide_eq_true_iff]
  exact ⟨h, List.all_eq_true.2 fun x hx => modB_true.2 (h2 x hx)⟩
/-- A greatest common divisor that is proved. -/
theorem gc_acc {a b : Int} (a1 : -900000000 ≤ a) (a2 : a ≤ 900000000) (b1 : -900000000 ≤ b) (b2 : b ≤ 900000000) (h0 : ¬ (a = 0 ∧ b = 0)) : pgC a b = 0 ∧ gcB (pgX a b) = true ∧ nbB (pgX a b) = true := by
  have hc : pgC a b = 0 := by
    unfold pgC
    rw [modB_true.2 ⟨by omega, by omega⟩, modB_true.2 ⟨by omega, by omega⟩]
    simp [h0]
  refine ⟨hc, ?_⟩
  have hA : (0 : Int) ≤ (a.natAbs : Int) := by omega
  have hB : (0 : Int) ≤ (b.natAbs : Int) := by omega
  obtain ⟨X, Y, k1, k2, k3, k4⟩ := euc_ok hA hB (by omega) (by omega) b.natAbs a.natAbs b.natAbs 1 0 0 1 1 (Nat.le_refl _) ⟨.inl rfl, by simp, by simp, by decide, by decide, by decide, by decide, by decide, ⟨by omega, by omega⟩, ⟨by omega, by omega⟩, ⟨by omega, by omega⟩, ⟨by omega, by omega⟩⟩
  have hg : 1 ≤ Nat.gcd a.natAbs b.natAbs := by
    rcases Nat.eq_zero_or_pos (Nat.gcd a.natAbs b.natAbs) with g | g
    · have := Nat.gcd_eq_zero_iff.1 g
      exact absurd ⟨by omega, by omega⟩ h0
    · exact g
  have hgl : Nat.gcd a.natAbs b.natAbs ≤ 900000000 := by
    rcases Nat.eq_zero_or_pos a.natAbs with g | g
    · have := Nat.gcd_le_right a.natAbs (n := b.natAbs) (by omega)
      omega
    · have := Nat.gcd_le_left b.natAbs g
      omega
  have d1 : ((Nat.gcd a.natAbs b.natAbs : Nat) : Int) ∣ a := Int.gcd_dvd_left ..
  have d2 : ((Nat.gcd a.natAbs b.natAbs : Nat) : Int) ∣ b := Int.gcd_dvd_right ..
  have hX : eucX a b = if a < 0 then -X else X := by
    unfold eucX eucS
    rw [k1]
    dsimp only
    split
    · unfold wrap64; omega
    · rfl
  have hY : eucY a b = if b < 0 then -Y else Y := by
    unfold eucY eucS
    rw [k1]
    dsimp only
    split
    · unfold wrap64; omega
    · rfl
  have hp : pgX a b = [a, b, ((Nat.gcd a.natAbs b.natAbs : Nat) : Int), if a < 0 then -X else X, if b < 0 then -Y else Y] := by
    unfold pgX
    rw [if_pos hc, hX, hY]
    unfold eucS
    rw [k1]
  rw [hp]
  constructor
  · unfold gcB
    simp only [Bool.and_eq_true, decide_eq_true_eq, beq_iff_eq]
    refine ⟨by omega, Int.tmod_eq_zero_of_dvd d1, Int.tmod_eq_zero_of_dvd d2, ?_⟩
    rw [← k2]
    have ea : a * (if a < 0 then -X else X) = X * (a.natAbs : Int) := by
      split
      · rename_i h
        have : (a.natAbs : Int) = -a := by omega
        rw [this]; grind
      · rename_i h
        have : (a.natAbs : Int) = a := by omega
        rw [this]; grind
    have eb : b * (if b < 0 then -Y else Y) = Y * (b.natAbs : Int) := by
      split
      · rename_i h
        have : (b.natAbs : Int) = -b := by omega
        rw [this]; grind
      · rename_i h
        have : (b.natAbs : Int) = b := by omega
        rw [this]; grind
    rw [ea, eb]
  · refine nb_of (by simp) fun x hx => ?_
    simp only [List.mem_cons, List.not_mem_nil, or_false] at hx
    rcases hx with rfl | rfl | rfl | rfl | rfl
    · omega
    · omega
    · omega
    · split <;> omega
    · split <;> omega
/-- A number that is no square. -/
theorem ro_acc {n : Int} (h1 : 1 ≤ n) (h2 : n ≤ 1000000) (hs : sqB n = false) : prC n = 0 ∧ roB (prX n) = true ∧ nbB (prX n) = true := by
  have hc : prC n = 0 := by
    unfold prC
    rw [modB_true.2 ⟨by omega, by omega⟩, if_pos rfl, if_neg (by omega), hs]
    rfl
  obtain ⟨r0, r1, r2⟩ := rtI_is (n := n) (by omega)
  have hne : rtI n * rtI n ≠ n := by simpa [sqB] using hs
  have hb := (rtI_bd (n := n) (M := 1001) (by omega) (by omega) (by omega)).2
  have hp : prX n = [n, rtI n] := by unfold prX; rw [if_pos hc]
  refine ⟨hc, ?_, ?_⟩
  · rw [hp]
    unfold roB
    simp only [Bool.and_eq_true, decide_eq_true_eq]
    exact ⟨r0, by omega, r2⟩
  · rw [hp]
    refine nb_of (by simp) fun x hx => ?_
    simp only [List.mem_cons, List.not_mem_nil, or_false] at hx
    rcases hx with rfl | rfl <;> omega
/-- The equation of the statement. -/
theorem li_acc {k : Int} (h1 : 0 ≤ k) (h2 : k ≤ 1000) : linC 6 9 (3 * k + 1) = 0 ∧ liB (linX 6 9 (3 * k + 1)) = true ∧ nbB (linX 6 9 (3 * k + 1)) = true := by
  have hg : Int.gcd 6 9 = 3 := by decide
  have hc : linC 6 9 (3 * k + 1) = 0 := by
    unfold linC
    rw [hg, (modB_true (n := 6)).2 ⟨by omega, by omega⟩, (modB_true (n := 9)).2 ⟨by omega, by omega⟩, (modB_true (n := 3 * k + 1)).2 ⟨by omega, by omega⟩]
    simp
  have hp : linX 6 9 (3 * k + 1) = [6, 9, 3 * k + 1, 3] := by unfold linX; rw [if_pos hc, hg]; rfl
  refine ⟨hc, ?_, ?_⟩
  · rw [hp]
    unfold liB
    simp only [Bool.and_eq_true, decide_eq_true_eq, beq_iff_eq, bne_iff_ne]
    refine ⟨by decide, by decide, by decide, ?_⟩
    rw [Int.tmod_eq_emod_of_nonneg (by omega)]
    omega
  · rw [hp]
    refine nb_of (by simp) fun x hx => ?_
    simp only [List.mem_cons, List.not_mem_nil, or_false] at hx
    rcases hx with rfl | rfl | rfl | rfl <;> omega
end Go.Proofs.YtpgkellmhlmjeaaGreatDoor
namespace Go.Proofs.YtpgkellmhlmjeaaGreatDoor
open Go.RowKit Go.Sort
theorem own_fullS {w : World} {base : Nat} {v : Value} {L : List Sd} {e : TypeId} (h : w.ownsRow base e 3 v L.length ((sdL L).map (Value.int .i64))) : ∃ A c, v = .slice A L.length c ∧ Wr (Value.int .i64) w base A (sdL L) ∧ L.length ≤ c ∧ c ≤ maxLen := by
  obtain ⟨_, A, c, e, g⟩ := Wr.of_ownS h
  refine ⟨A, c, e, g, ?_⟩
  rcases h.2 with ⟨e2, h0⟩ | ⟨g', cap, cur, e2, _, _, hc, hm, _⟩
  · rw [e] at e2
    injection e2 with _ _ e3
    rw [e3, h0]
    exact ⟨Nat.le_refl _, Nat.zero_le _⟩
  · rw [e] at e2
    injection e2 with _ _ e3
    rw [e3]
    exact ⟨hc, hm⟩
/-- What a call returns that goes along surds. -/
def RetAl (w : World) (R : Option (List Sd)) (e : Ending) (w' : World) : Prop :=
  ∃ A c, e = .returned (.tuple #[.slice A (R.getD []).length c, .bool R.isSome]) ∧ Wr (Value.int .i64) w' w.heap.size A (sdL (R.getD [])) ∧ ((R.getD []).length ≤ c ∧ c ≤ maxLen) ∧ Below w.heap.size w w'
theorem RetAl.none_ {w w' : World} (h : Below w.heap.size w w') : RetAl w none (.returned (.tuple #[.slice none 0 0, .bool false])) w' := ⟨none, 0, rfl, fun h => absurd h (by simp [sdL]), ⟨Nat.zero_le _, Nat.zero_le _⟩, h⟩
/-- What holds on the way: the surd's box, the row. -/
structure SoB (w : World) (out : List Sd) (s : Sd) (v : Value) (wr : World) : Prop where
  box : BoxV w.heap.size [.int .i64 s.1, .int .i64 s.2.1, .int .i64 s.2.2] wr
  own : wr.ownsRow (w.heap.size + 1) 46 3 v out.length ((sdL out).map (Value.int .i64))
  below : Below w.heap.size w wr
  lt : w.heap.size + 1 ≤ wr.heap.size
  ok : sdOk s = true
theorem SoB.next {w : World} {out : List Sd} {s : Sd} {v : Value} {wr w2 : World} (h : SoB w out s v wr) (hb : Below wr.heap.size wr w2) : SoB w out s v w2 :=
  ⟨h.box.next hb, own_below h.own hb, ext_trans h.below hb, Nat.le_trans h.lt hb.size, h.ok⟩
theorem SoB.set {w : World} {out : List Sd} {s t : Sd} {v : Value} {wr : World} (h : SoB w out s v wr) (ht : sdOk t = true) :
    SoB w out t v (((wr.setCell ⟨w.heap.size, 0, none⟩ (.int .i64 t.1)).setCell ⟨w.heap.size, 1, none⟩ (.int .i64 t.2.1)).setCell ⟨w.heap.size, 2, none⟩ (.int .i64 t.2.2)) :=
  ⟨((h.box.set 0 _ (by simp)).set 1 _ (by simp)).set 2 _ (by simp), own_setFar (own_setFar (own_setFar h.own _ (by omega)) _ (by omega)) _ (by omega), ext_set (ext_set (ext_set h.below (by simp) _) (by simp) _) (by simp) _, by simpa using h.lt, ht⟩
theorem SoB.push {w : World} {out : List Sd} {s t : Sd} {v : Value} {wr w3 : World} {o : Obj} (h : SoB w out s v wr) (v' : Value)
    (hown3 : w3.ownsRow (w.heap.size + 1) 46 3 v' (out.length + 1) ((sdL out).map (Value.int .i64) ++ [.int .i64 t.1, .int .i64 t.2.1, .int .i64 t.2.2])) (hg : (wr.alloc o).grownBy w3 v.ownBlock) : SoB w (out ++ [t]) s v' w3 := by
  refine ⟨(h.box.alloc o).grown hg (own_far h.own (by omega)), ?_, below_grown (ext_alloc h.below o) (h.own.alloc o) (by omega) hg, ?_, h.ok⟩
  · rw [sdL_snoc]
    simpa using hown3
  · have := hg.size
    have := h.lt
    simp at *
    omega
theorem al_snoc (out : List Sd) (x : Sd) (o : Option (List Sd)) : o.map ((out ++ [x]) ++ ·) = (o.map (x :: ·)).map (out ++ ·) := by cases o <;> simp
set_option maxRecDepth 100000 in
set_option maxHeartbeats 3000000 in
theorem l26Along_any (p d q : Int) (A : Option Addr) (c : Nat) (ts : List Int) (w : World) (hx : Rd (Value.int .i64) w w.heap.size A ts) (hl : ts.length ≤ 1000) (hok : sdOk (p, d, q) = true) :
    Calls Tryz.prog 126 #[surdV p d q, .slice A ts.length c] w (RetAl w (along (p, d, q) ts)) := by
  obtain ⟨ti, hi, hz0, hz1, hz2⟩ := info_parts infoSd'
  have HI := Lib.hid hi
  have HX := Lib.hid hx
  clear hi hx
  obtain ⟨R, hR⟩ : ∃ R, along (p, d, q) ts = R := ⟨_, rfl⟩
  have HR : Hid ((alg (ts.drop 0) (p, d, q)).map ([(p, d, q)] ++ ·) = R) := by
    have h : along (p, d, q) ts = if sdOk (p, d, q) = true then (alg ts (p, d, q)).map ((p, d, q) :: ·) else none := rfl
    rw [hok, if_pos rfl, hR] at h
    exact h.symm
  rw [hR]
  have HOK0 := Lib.hid hok
  clear hR hok
  have B0 := Lib.hid (BoxV.new w #[.int .i64 p, .int .i64 d, .int .i64 q] 46)
  have HV0 : Hid (SoB w [(p, d, q)] (p, d, q) (.slice (some ⟨w.heap.size + 1, 0, none⟩) 1 1) ((w.alloc (.cells #[.int .i64 p, .int .i64 d, .int .i64 q] 46)).alloc (.cells #[.int .i64 p, .int .i64 d, .int .i64 q] 46))) := by
    refine ⟨B0.out.alloc _, ?_, ext_alloc (ext1 _ _) _, by simp, HOK0.out⟩
    have h := World.ownsRow_lit (base := w.heap.size + 1) (e := 46) (size := 3) (w.alloc (.cells #[.int .i64 p, .int .i64 d, .int .i64 q] 46)) #[.int .i64 p, .int .i64 d, .int .i64 q] 1 (by simp) (by unfold maxLen; omega) rfl
    simpa [sdL] using h
  unfold surdV
  go_enter Tryz.func126, Tryz.ntmps126
  go_wp2_with fail
  generalize (w.alloc (.cells #[.int .i64 p, .int .i64 d, .int .i64 q] 46)).alloc (.cells #[.int .i64 p, .int .i64 d, .int .i64 q] 46) = W0 at *
  clear B0 HOK0
  go_loopw [7, 6] (fun t v wr => ∃ (k : Nat) (s : Sd) (out : List Sd), k ≤ ts.length ∧ t = .int .i64 k ∧ out.length = k + 1 ∧ Hid ((alg (ts.drop k) s).map (out ++ ·) = R) ∧ Hid (SoB w out s v wr)) (fun t _ _ => ts.length - (intOf t).toNat)
  case atStart => exact ⟨0, (p, d, q), [(p, d, q)], by omega, rfl, rfl, HR.out, HV0.out⟩
  case round =>
    obtain ⟨k, ⟨sp, sd, sq⟩, out, hk, rfl, hol, HA, HV1⟩ := hrel
    have HOL := Lib.hid hol
    have hol1 : out.length ≤ 1001 := by omega
    have hol2 : 0 < out.length := by omega
    clear HR HV0 hol
    by_cases hlt : k < ts.length
    · obtain ⟨b, off, rfl, hb, hc⟩ := HX.out (by omega)
      obtain ⟨t, htk⟩ : ∃ t, ts[k]? = some t := ⟨_, List.getElem?_eq_getElem hlt⟩
      have cx := (HV1.out.below.cell (p := ⟨b, off + k, none⟩) hb).trans (hc k t htk)
      have HCX : Hid (∀ W, Below w.heap.size w W → W.cell? ⟨b, off + k, none⟩ = some (.int .i64 t)) := fun W h => (h.cell (p := ⟨b, off + k, none⟩) hb).trans (hc k t htk)
      have k0 : ∀ x os, (grow (redrawn wr x) os).cell? ⟨w.heap.size, 0, none⟩ = some (.int .i64 sp) := cell_regrown (HV1.out.box.at 0 _ rfl)
      have k1 : ∀ x os, (grow (redrawn wr x) os).cell? ⟨w.heap.size, 1, none⟩ = some (.int .i64 sd) := cell_regrown (HV1.out.box.at 1 _ rfl)
      have k2 : ∀ x os, (grow (redrawn wr x) os).cell? ⟨w.heap.size, 2, none⟩ = some (.int .i64 sq) := cell_regrown (HV1.out.box.at 2 _ rfl)
      have k3 : ∀ x os, (grow (redrawn wr x) os).cell? ⟨b, off + k, none⟩ = some (.int .i64 t) := cell_regrown cx
      have HFL := Lib.hid (fun W : World => l07Floor_any sp sd sq W HV1.out.ok)
      have HNX := Lib.hid (fun W : World => l07Next_any sp sd sq W HV1.out.ok)
      have HS := Lib.hid (alg_step (s := (sp, sd, sq)) htk)
      have i0 : (0 : Int) ≤ (k : Int) := by omega
      have i1 : (k : Int) < (ts.length : Int) := by omega
      clear hc htk cx
      unfold surdV at HFL HNX
      generalize hfl : flS (sp, sd, sq) = f at *
      by_cases hft : f = t
      · subst hft
        have t1 : (f != f) = false := by simp
        rw [decide_eq_true rfl, Bool.true_and] at HS
        clear hfl
        go_wp2_with fail
        refine wp_region_quiet_below (by kernel_rfl) (by kernel_rfl) ?_
        repeat (first | go_big_quiet_step ((with_reducible exact Calls.regrown_of (HFL.out _))) | quiet_step ((with_reducible exact Calls.regrown_of (HFL.out _))))
        refine wpQuiet_nil ?_
        intro _ hw'
        obtain ⟨⟨dq, oq⟩, hw''⟩ := hw'
        subst hw''
        have V2 := Lib.hid (HV1.out.next (below_regrown wr dq oq))
        clear k0 k1 k2 k3 HV1
        generalize grow (redrawn wr dq) oq = w2 at *
        have HK4 : Hid (∀ W', Below w2.heap.size w2 W' → W'.cell? ⟨w.heap.size, 0, none⟩ = some (.int .i64 sp) ∧ W'.cell? ⟨w.heap.size, 1, none⟩ = some (.int .i64 sd) ∧ W'.cell? ⟨w.heap.size, 2, none⟩ = some (.int .i64 sq) ∧ W'.cell? ⟨b, off + k, none⟩ = some (.int .i64 f)) := fun W' hb' => by
          have h := V2.out.next hb'
          exact ⟨h.box.at 0 _ rfl, h.box.at 1 _ rfl, h.box.at 2 _ rfl, HCX.out _ h.below⟩
        obtain ⟨ok, hokE⟩ : ∃ ok, sdOk (nxS (sp, sd, sq)) = ok := ⟨_, rfl⟩
        unfold RetNx at HNX
        rw [hokE] at HNX HS
        have HOE := Lib.hid hokE
        have hokk : Hid (∀ x : Sd, (ok = true → x = nxS (sp, sd, sq)) → ok = true → sdOk x = true) := fun x h1 h2 => by rw [h1 h2, HOE.out]; exact h2
        clear hokE
        go_upto_region 7 with fail
        go_cut [8, 9] (fun u v wx => ∃ (g5 : Nat) (x : Sd), u = .pointer (some ⟨g5, 0, none⟩) ∧ v = .bool ok ∧ BoxV g5 [.int .i64 x.1, .int .i64 x.2.1, .int .i64 x.2.2] wx ∧ Below w2.heap.size w2 wx ∧ w2.heap.size ≤ g5 ∧ Hid (ok = true → x = nxS (sp, sd, sq)))
        case first =>
          go_region_held3 (fun w' => w'.cell? ⟨w.heap.size, 0, none⟩ = some (.int .i64 sp) ∧ w'.cell? ⟨w.heap.size, 1, none⟩ = some (.int .i64 sd) ∧ w'.cell? ⟨w.heap.size, 2, none⟩ = some (.int .i64 sq) ∧ w'.cell? ⟨b, off + k, none⟩ = some (.int .i64 f))
            (first | exact HK4.out _ (by repeat (first | exact Below.refl _ _ | assumption | refine ext_set ?_ (by simp <;> omega) _ | refine ext_alloc ?_ _ | refine ext_drew ?_ | refine ext_trans ?_ (by assumption))))
            (first | (go_at_call 134; (with_reducible refine (HNX.out _).mono ?_); rintro e w5 ⟨⟨t1', t2', t3'⟩, rfl, htt, hb5⟩; have HTT := Lib.hid htt; clear htt; have y5 := hb5.size; (try simp at y5); (try have m0 := (hb5.cell (p := ⟨w2.heap.size, 0, none⟩) (by simp)).trans (cell_one w2.drew _ _ _)); (try have m1 := (hb5.cell (p := ⟨w2.heap.size, 1, none⟩) (by simp)).trans (cell_one w2.drew _ _ _)); (try have m2 := (hb5.cell (p := ⟨w2.heap.size, 2, none⟩) (by simp)).trans (cell_one w2.drew _ _ _)); (try have f0 := (hb5.frozen (p := ⟨w2.heap.size, 0, none⟩) (by simp)).trans (World.frozen?_alloc_at w2.drew _ _ _ rfl)); obtain ⟨hc5, hf5⟩ := bcell hb5))
          all_goals go_wp2_with fail
          all_goals go_meet
          all_goals first
            | exact ⟨w5.heap.size, (t1', t2', t3'), rfl, rfl, BoxV.new w5 #[.int .i64 t1', .int .i64 t2', .int .i64 t3'] _, ext_alloc (ext_trans (ext_drew (Below.refl _ _)) hb5) _, by simpa using y5, HTT.out⟩
            | exact ⟨w2.heap.size, (t1', t2', t3'), rfl, rfl, by simpa using ((((BoxV.new w2.drew #[.int .i64 0, .int .i64 0, .int .i64 0] _).next hb5).set 0 (.int .i64 t1') (by simp)).set 1 (.int .i64 t2') (by simp)).set 2 (.int .i64 t3') (by simp), ext_set (ext_set (ext_set (ext_trans (ext_alloc (ext_drew (Below.refl _ _)) _) hb5) (by simp) _) (by simp) _) (by simp) _, Nat.le_refl _, HTT.out⟩
        case rest =>
          obtain ⟨g5, ⟨x1, x2, x3⟩, rfl, rfl, B5, hb5, hg5, HXX⟩ := hcut
          have V5 := Lib.hid (V2.out.next hb5)
          have hng : w.heap.size ≠ g5 := by have := V2.out.lt; omega
          clear HK4 V2
          cases ok
          · have HE : Hid (R = none) := by
              have h := HA.out
              rw [HS.out] at h
              exact h.symm
            go_wp2
            go_ret2
            rw [HE.out]
            exact RetAl.none_ V5.out.below
          · have hX := HXX.out rfl
            have HOK : Hid (sdOk (x1, x2, x3) = true) := hokk.out _ HXX.out rfl
            have HN : Hid ((alg (ts.drop (k + 1)) (x1, x2, x3)).map ((out ++ [(x1, x2, x3)]) ++ ·) = R) := by
              have h := HA.out
              rw [HS.out, if_pos rfl, ← hX] at h
              unfold Hid
              rw [al_snoc]
              exact h
            clear hX HXX HS HA hokk HOE
            have n0 := B5.at 0 _ rfl
            have n1 := B5.at 1 _ rfl
            have n2 := B5.at 2 _ rfl
            have y0 := V5.out.box.at 0 _ rfl
            have y1 := V5.out.box.at 1 _ rfl
            have y2 := V5.out.box.at 2 _ rfl
            have f0 := V5.out.box.f 0
            have f1 := V5.out.box.f 1
            have f2 := V5.out.box.f 2
            have V6 := Lib.hid (V5.out.set HOK.out)
            have hown := V6.out.own
            have hlt6 := V5.out.lt
            obtain ⟨s0, s1, s2⟩ := set3 y0 y1 y2
            have q0 := V6.out.box.at 0 _ rfl
            have q1 := V6.out.box.at 1 _ rfl
            have q2 := V6.out.box.at 2 _ rfl
            have hsz6 : wc.heap.size = (((wc.setCell ⟨w.heap.size, 0, none⟩ (.int .i64 x1)).setCell ⟨w.heap.size, 1, none⟩ (.int .i64 x2)).setCell ⟨w.heap.size, 2, none⟩ (.int .i64 x3)).heap.size := by simp
            have HSZ := Lib.hid hsz6
            clear hsz6
            go_wp2_with (at_builtin; refine wpList_append_own _ rfl _ _ 94 rfl (w.heap.size + 1) 46 ti (.agg #[.int .i64 0, .int .i64 0, .int .i64 0]) 3 24 Tryz.underlying94 HI.out hz0 hz1 hz2 rfl (by decide) _ _ _ rfl (hown.alloc _) ⟨wc.heap.size, 0, none⟩ 1 1 [.int .i64 x1, .int .i64 x2, .int .i64 x3] rfl rfl ?m1 ?m2 ?m3 ?m4 ?m5 ?_)
            case m2 => simp [Value.oneCell']
            case m3 => unfold maxLen; omega
            case m4 => omega
            case m5 => first | omega | (simp <;> omega)
            intro v7 w7 hown7 hgrow7 _
            have V7 := Lib.hid (SoB.push (t := (x1, x2, x3)) V6.out v7 hown7 hgrow7)
            clear hown7 hgrow7 hown hlt6 V5 V6
            go_wp2
            go_roundw
            case rel => exact ⟨k + 1, (x1, x2, x3), out ++ [(x1, x2, x3)], by omega, by go_num, by have := HOL.out; simp; omega, HN.out, V7.out⟩
            case measure => simp [intOf]; omega
      · have t1 : (f != t) = true := by simpa using hft
        have HE : Hid (R = none) := by
          have h := HA.out
          rw [HS.out, decide_eq_false hft] at h
          exact h.symm
        clear hft HS HA hfl
        go_wp2_with fail
        refine wp_region_quiet_below (by kernel_rfl) (by kernel_rfl) ?_
        repeat (first | go_big_quiet_step ((with_reducible exact Calls.regrown_of (HFL.out _))) | quiet_step ((with_reducible exact Calls.regrown_of (HFL.out _))))
        refine wpQuiet_nil ?_
        intro _ hw'
        obtain ⟨⟨dq, oq⟩, hw''⟩ := hw'
        subst hw''
        have HB3 := Lib.hid (ext_trans HV1.out.below (below_regrown wr dq oq))
        go_wp2
        go_ret2
        rw [HE.out]
        exact RetAl.none_ HB3.out
    · have HE : Hid (R = some out) := by
        have h := HA.out
        rw [alg_end hlt] at h
        rw [← h]
        simp [Hid]
      have i1 : ¬ (k : Int) < (ts.length : Int) := by omega
      obtain ⟨B, cB, rfl, gw, gc⟩ := own_fullS HV1.out.own
      have GW := Lib.hid gw
      clear gw
      go_wp2
      go_ret2
      rw [HE.out]
      exact ⟨B, cB, rfl, GW.out.more (by omega), gc, HV1.out.below⟩
end Go.Proofs.YtpgkellmhlmjeaaGreatDoor
