/- Parts of the proof, merged: CheckAW PerW. No condition but those that each theorem names. -/
import Derived.Test.YtpgkellmhlmjeaaGreatDoorMgAH
import Derived.Test.YtpgkellmhlmjeaaGreatDoorMgAE
import Derived.Test.YtpgkellmhlmjeaaGreatDoorMgAC
import Derived.Deep.RegionHeld3
import Derived.IntWalk
namespace Go.Proofs.YtpgkellmhlmjeaaGreatDoor
open Go.RowKit Go.Sort
theorem below_drewN' {B n : Nat} {w w' : World} (h : Below B w w') : Below B w (w'.drewN n) := ⟨h.os, h.tape, h.output, h.size, h.block⟩
/-- A certificate has a kind, and not too many and not too great numbers. -/
def nbB (xs : List Int) : Bool := decide (xs.length ≤ 420) && xs.all modB
def bdC (kk : Int) (xs : List Int) : Bool := inR kk 1 6 && nbB xs
theorem nbB_all {xs : List Int} (h : nbB xs = true) : xs.length ≤ 420 ∧ ∀ x ∈ xs, -1000000000 ≤ x ∧ x ≤ 1000000000 := by
  unfold nbB at h
  rw [Bool.and_eq_true, decide_eq_true_iff] at h
  exact ⟨h.1, fun x hx => modB_true.1 (List.all_eq_true.1 h.2 x hx)⟩
theorem bcF_any (x : Int) (w : World) : Calls Tryz.prog 77 #[.int .i64 x] w fun e w' => e = .returned (.bool (!modB x)) ∧ w = w' := by
  go_enter Tryz.func77, Tryz.ntmps77
  go_wp2_with (go_at_call 51; refine (isModerate_any _ _).mono ?_; rintro e w' ⟨rfl, rfl⟩)
  go_ret
  exact ⟨rfl, rfl⟩
set_option maxHeartbeats 1000000 in
theorem isBoundedCert_any (kk : Int) (A : Option Addr) (c : Nat) (xs : List Int) (w : World) (hx : Rd (Value.int .i64) w w.heap.size A xs) (hm : xs.length ≤ maxLen) :
    Calls Tryz.prog 35 #[certV kk A xs.length c] w fun e w' => e = .returned (.bool (bdC kk xs)) ∧ Below w.heap.size w w' := by
  have HX : Hid (Rd (Value.int .i64) (w.alloc (.cells #[.int .i64 kk, .slice A xs.length c] 26)) (w.alloc (.cells #[.int .i64 kk, .slice A xs.length c] 26)).heap.size A xs) := (hx.below (ext1 _ _)).more (by simp)
  have HC := Lib.hid (containsFuncBC_any (fun x => !modB x) (fun x W => bcF_any x W) A c xs _ HX.out hm)
  have HA : Hid (xs.any (fun x => !modB x) = !xs.all modB) := by unfold Hid; rw [List.all_eq_not_any_not]; simp
  have HB : Hid (bdC kk xs = (inR kk 1 6 && (decide (xs.length ≤ 420) && xs.all modB))) := rfl
  rw [HA.out] at HC
  rw [HB.out]
  clear hx HA HB
  generalize xs.all modB = al at *
  unfold certV
  cases h1 : inR kk 1 6
  · go_enter Tryz.func35, Tryz.ntmps35
    go_wp2_with (go_at_call 70; (with_reducible refine (within_is h1 _).mono ?_); rintro e w' ⟨rfl, rfl⟩)
    go_ret
    exact ⟨rfl, ext1 _ _⟩
  · by_cases h2 : xs.length ≤ 420
    · have d2 : decide ((xs.length : Int) ≤ 420) = true := by simp; omega
      have d2n : decide (xs.length ≤ 420) = true := by simp; omega
      rw [d2n]
      go_enter Tryz.func35, Tryz.ntmps35
      go_wp2_with (first | (go_at_call 70; (with_reducible refine (within_is h1 _).mono ?_); rintro e w' ⟨rfl, rfl⟩) | (go_at_call 76; (with_reducible refine HC.out.mono ?_); rintro e w' ⟨rfl, rfl⟩))
      go_ret
      exact ⟨ret_bool (by simp), ext1 _ _⟩
    · have d2 : decide ((xs.length : Int) ≤ 420) = false := by simp; omega
      have d2n : decide (xs.length ≤ 420) = false := by simp; omega
      rw [d2n]
      go_enter Tryz.func35, Tryz.ntmps35
      go_wp2_with (first | (go_at_call 70; (with_reducible refine (within_is h1 _).mono ?_); rintro e w' ⟨rfl, rfl⟩))
      go_ret
      exact ⟨rfl, ext1 _ _⟩
set_option maxHeartbeats 1000000 in
theorem l26Fits_any (g : Nat) (A : Option Addr) (c : Nat) (xs : List Int) (w : World) (hx : Rd (Value.int .i64) w w.heap.size A xs) (hm : xs.length ≤ maxLen) (c1 : w.cell? ⟨g, 1, none⟩ = some (.slice A xs.length c)) :
    Calls Tryz.prog 78 #[.pointer (some ⟨g, 0, none⟩)] w fun e w' => e = .returned (.bool (nbB xs)) ∧ w = w' := by
  unfold maxLen at hm
  have HX := Lib.hid hx
  clear hx
  go_enter Tryz.func78, Tryz.ntmps78
  go_wp2_with fail
  go_loop [3] (fun t => ∃ k : Nat, k ≤ xs.length ∧ t = .int .i64 k ∧ Hid ((xs.take k).all modB = true)) (fun t => xs.length - (intOf t).toNat)
  case atStart => exact ⟨0, by omega, rfl, by simp [Hid]⟩
  case round =>
    obtain ⟨k, hk, rfl, HK⟩ := hrel
    by_cases hlt : k < xs.length
    · obtain ⟨b, off, rfl, hb, hc⟩ := HX.out (by omega)
      obtain ⟨x, hxk⟩ : ∃ x, xs[k]? = some x := ⟨_, List.getElem?_eq_getElem hlt⟩
      have cx := hc k x hxk
      have i0 : (0 : Int) ≤ (k : Int) := by omega
      have i1 : (k : Int) < (xs.length : Int) := by omega
      have HM := Lib.hid (fun W : World => l26Num_any x W)
      cases hmd : modB x
      · have HE : Hid (nbB xs = false) := by
          unfold Hid nbB
          rw [allN hxk hmd, Bool.and_false]
        rw [hmd] at HM
        clear hc hxk hmd
        go_wp2_with (go_at_call 125; (with_reducible refine (HM.out _).mono ?_); rintro e w' ⟨rfl, rfl⟩)
        go_ret
        exact ⟨ret_bool HE.out.symm, rfl⟩
      · have HE := Lib.hid (allT HK.out hxk hmd)
        rw [hmd] at HM
        clear hc hxk hmd
        go_wp2_with (go_at_call 125; (with_reducible refine (HM.out _).mono ?_); rintro e w' ⟨rfl, rfl⟩)
        go_round
        case rel => exact ⟨k + 1, by omega, by go_num, HE.out⟩
        case measure => simp [intOf]; omega
    · have HE : Hid (decide (xs.length ≤ 420) = nbB xs) := by
        have h := HK.out
        rw [List.take_of_length_le (by omega)] at h
        unfold Hid nbB
        rw [h, Bool.and_true]
      have i1 : ¬ (k : Int) < (xs.length : Int) := by omega
      go_wp2
      go_ret
      exact ⟨ret_bool (HE.out ▸ (by rw [Bool.eq_iff_iff]; simp; omega)), rfl⟩
theorem tmod_m {c g : Int} (hg : 0 < g) (h1 : -1000000000 ≤ c) (h2 : c ≤ 1000000000) : IntKind.i64.wrap (c.tmod g) = c.tmod g := IntWalk.i64_in _ (by have := tmod_bd1 hg h1 h2; omega)
theorem mulm {x y : Int} (h1 : -1000000000 ≤ x ∧ x ≤ 1000000000) (h2 : -1000000000 ≤ y ∧ y ≤ 1000000000) : -1000000000000000000 ≤ x * y ∧ x * y ≤ 1000000000000000000 := by
  have := mul_bd (x := x) (y := y) (M := 1000000000) (N := 1000000000) (by omega) h1.2 (by omega) h2.2 h1.1 h2.1
  omega
set_option maxRecDepth 100000 in
set_option maxHeartbeats 2000000 in
theorem checkGcd_any (A : Option Addr) (c : Nat) (xs : List Int) (w : World) (hx : Rd (Value.int .i64) w w.heap.size A xs) (hb : ∀ x ∈ xs, -1000000000 ≤ x ∧ x ≤ 1000000000) (hm : xs.length ≤ 420) :
    Calls Tryz.prog 29 #[.slice A xs.length c] w fun e w' => e = .returned (.bool (gcB xs)) ∧ Below w.heap.size w w' := by
  have HE := Lib.hid (Below.refl w.heap.size w)
  by_cases hl : xs.length = 5
  · obtain ⟨a, b, g, x, y, rfl⟩ := len5 hl
    obtain ⟨bb, off, rfl, hbb, hc⟩ := hx (by simp)
    have c0 := hc 0 a rfl
    have c1 := hc 1 b rfl
    have c2 := hc 2 g rfl
    have c3 := hc 3 x rfl
    have c4 := hc 4 y rfl
    rw [Nat.add_zero] at c0
    obtain ⟨a1, a2⟩ := hb a (by simp)
    obtain ⟨b1, b2⟩ := hb b (by simp)
    obtain ⟨g1, g2⟩ := hb g (by simp)
    obtain ⟨x1, x2⟩ := hb x (by simp)
    obtain ⟨y1, y2⟩ := hb y (by simp)
    have HG : Hid (gcB [a, b, g, x, y] = (decide (1 ≤ g) && (a.tmod g == 0 && (b.tmod g == 0 && (a * x + b * y == g))))) := rfl
    obtain ⟨m1, m2⟩ := mulm ⟨a1, a2⟩ ⟨x1, x2⟩
    obtain ⟨m3, m4⟩ := mulm ⟨b1, b2⟩ ⟨y1, y2⟩
    have v1 : IntKind.i64.wrap (a * x) = a * x := IntWalk.i64_in _ (by omega)
    have v2 : IntKind.i64.wrap (b * y) = b * y := IntWalk.i64_in _ (by omega)
    have v3 : IntKind.i64.wrap (a * x + b * y) = a * x + b * y := IntWalk.i64_in _ (by omega)
    rw [HG.out]
    clear hc hb hx HG hl
    by_cases hg : 1 ≤ g
    · have d1 : decide (1 ≤ g) = true := by simpa using hg
      have v4 := tmod_m (c := a) (g := g) (by omega) a1 a2
      have v5 := tmod_m (c := b) (g := g) (by omega) b1 b2
      have e0 : ¬ (g = 0) := by omega
      rw [d1]
      cases t1 : (a.tmod g == 0)
      · go_enter Tryz.func29, Tryz.ntmps29
        go_wp2_with fail
        go_quiet (fail)
        go_wp2
        go_ret
        exact ⟨rfl, below_drewN' HE.out⟩
      · cases t2 : (b.tmod g == 0)
        · go_enter Tryz.func29, Tryz.ntmps29
          go_wp2_with fail
          go_quiet (fail)
          go_wp2
          go_ret
          exact ⟨rfl, below_drewN' HE.out⟩
        · go_enter Tryz.func29, Tryz.ntmps29
          go_wp2_with fail
          go_quiet (fail)
          go_wp2
          go_ret
          exact ⟨rfl, below_drewN' HE.out⟩
    · have d1 : decide (1 ≤ g) = false := by simpa using hg
      rw [d1]
      go_enter Tryz.func29, Tryz.ntmps29
      go_wp2_with fail
      go_quiet (fail)
      go_wp2
      go_ret
      exact ⟨rfl, below_drewN' HE.out⟩
  · have HG := Lib.hid (gcB_len hl)
    have d0 : ((xs.length : Int) == 5) = false := by simp; omega
    rw [HG.out]
    clear hl HG
    go_enter Tryz.func29, Tryz.ntmps29
    go_wp2_with fail
    go_quiet (fail)
    go_wp2
    go_ret
    exact ⟨rfl, below_drewN' HE.out⟩
set_option maxRecDepth 100000 in
set_option maxHeartbeats 2000000 in
theorem l26Gcd_any (A : Option Addr) (c : Nat) (xs : List Int) (w : World) (hx : Rd (Value.int .i64) w w.heap.size A xs) (hb : ∀ x ∈ xs, -1000000000 ≤ x ∧ x ≤ 1000000000) (hm : xs.length ≤ 420) :
    Calls Tryz.prog 79 #[.slice A xs.length c] w fun e w' => e = .returned (.bool (gcB xs)) ∧ Below w.heap.size w w' := by
  have HE := Lib.hid (Below.refl w.heap.size w)
  by_cases hl : xs.length = 5
  · obtain ⟨a, b, g, x, y, rfl⟩ := len5 hl
    obtain ⟨bb, off, rfl, hbb, hc⟩ := hx (by simp)
    have c0 := hc 0 a rfl
    have c1 := hc 1 b rfl
    have c2 := hc 2 g rfl
    have c3 := hc 3 x rfl
    have c4 := hc 4 y rfl
    rw [Nat.add_zero] at c0
    obtain ⟨a1, a2⟩ := hb a (by simp)
    obtain ⟨b1, b2⟩ := hb b (by simp)
    obtain ⟨g1, g2⟩ := hb g (by simp)
    obtain ⟨x1, x2⟩ := hb x (by simp)
    obtain ⟨y1, y2⟩ := hb y (by simp)
    have HG : Hid (gcB [a, b, g, x, y] = (decide (1 ≤ g) && (a.tmod g == 0 && (b.tmod g == 0 && (a * x + b * y == g))))) := rfl
    obtain ⟨m1, m2⟩ := mulm ⟨a1, a2⟩ ⟨x1, x2⟩
    obtain ⟨m3, m4⟩ := mulm ⟨b1, b2⟩ ⟨y1, y2⟩
    have v1 : IntKind.i64.wrap (a * x) = a * x := IntWalk.i64_in _ (by omega)
    have v2 : IntKind.i64.wrap (b * y) = b * y := IntWalk.i64_in _ (by omega)
    have v3 : IntKind.i64.wrap (a * x + b * y) = a * x + b * y := IntWalk.i64_in _ (by omega)
    rw [HG.out]
    clear hc hb hx HG hl
    by_cases hg : 1 ≤ g
    · have d1 : decide (1 ≤ g) = true := by simpa using hg
      have v4 := tmod_m (c := a) (g := g) (by omega) a1 a2
      have v5 := tmod_m (c := b) (g := g) (by omega) b1 b2
      have e0 : ¬ (g = 0) := by omega
      rw [d1]
      cases t1 : (a.tmod g == 0)
      · go_enter Tryz.func79, Tryz.ntmps79
        go_wp2_with fail
        go_quiet (fail)
        go_wp2
        go_ret
        exact ⟨rfl, below_drewN' HE.out⟩
      · cases t2 : (b.tmod g == 0)
        · go_enter Tryz.func79, Tryz.ntmps79
          go_wp2_with fail
          go_quiet (fail)
          go_wp2
          go_ret
          exact ⟨rfl, below_drewN' HE.out⟩
        · go_enter Tryz.func79, Tryz.ntmps79
          go_wp2_with fail
          go_quiet (fail)
          go_wp2
          go_ret
          exact ⟨rfl, below_drewN' HE.out⟩
    · have d1 : decide (1 ≤ g) = false := by simpa using hg
      rw [d1]
      go_enter Tryz.func79, Tryz.ntmps79
      go_wp2_with fail
      go_quiet (fail)
      go_wp2
      go_ret
      exact ⟨rfl, below_drewN' HE.out⟩
  · have HG := Lib.hid (gcB_len hl)
    have d0 : ((xs.length : Int) == 5) = false := by simp; omega
    rw [HG.out]
    clear hl HG
    go_enter Tryz.func79, Tryz.ntmps79
    go_wp2_with fail
    go_quiet (fail)
    go_wp2
    go_ret
    exact ⟨rfl, below_drewN' HE.out⟩
set_option maxRecDepth 100000 in
set_option maxHeartbeats 2000000 in
theorem checkLinear_any (A : Option Addr) (c : Nat) (xs : List Int) (w : World) (hx : Rd (Value.int .i64) w w.heap.size A xs) (hb : ∀ x ∈ xs, -1000000000 ≤ x ∧ x ≤ 1000000000) (hm : xs.length ≤ 420) :
    Calls Tryz.prog 31 #[.slice A xs.length c] w fun e w' => e = .returned (.bool (liB xs)) ∧ Below w.heap.size w w' := by
  have HE := Lib.hid (Below.refl w.heap.size w)
  by_cases hl : xs.length = 4
  · obtain ⟨a, b, x, g, rfl⟩ := len4 hl
    obtain ⟨bb, off, rfl, hbb, hc⟩ := hx (by simp)
    have c0 := hc 0 a rfl
    have c1 := hc 1 b rfl
    have c2 := hc 2 x rfl
    have c3 := hc 3 g rfl
    rw [Nat.add_zero] at c0
    obtain ⟨a1, a2⟩ := hb a (by simp)
    obtain ⟨b1, b2⟩ := hb b (by simp)
    obtain ⟨g1, g2⟩ := hb g (by simp)
    obtain ⟨x1, x2⟩ := hb x (by simp)
    have HG : Hid (liB [a, b, x, g] = (decide (2 ≤ g) && (a.tmod g == 0 && (b.tmod g == 0 && (x.tmod g != 0))))) := rfl
    rw [HG.out]
    clear hc hb hx HG hl
    by_cases hg : 2 ≤ g
    · have d1 : decide (2 ≤ g) = true := by simpa using hg
      have v4 := tmod_m (c := a) (g := g) (by omega) a1 a2
      have v5 := tmod_m (c := b) (g := g) (by omega) b1 b2
      have v6 := tmod_m (c := x) (g := g) (by omega) x1 x2
      have e0 : ¬ (g = 0) := by omega
      rw [d1]
      cases t1 : (a.tmod g == 0)
      · go_enter Tryz.func31, Tryz.ntmps31
        go_wp2_with fail
        go_quiet (fail)
        go_wp2
        go_ret
        exact ⟨rfl, below_drewN' HE.out⟩
      · cases t2 : (b.tmod g == 0)
        · go_enter Tryz.func31, Tryz.ntmps31
          go_wp2_with fail
          go_quiet (fail)
          go_wp2
          go_ret
          exact ⟨rfl, below_drewN' HE.out⟩
        · go_enter Tryz.func31, Tryz.ntmps31
          go_wp2_with fail
          go_quiet (fail)
          go_wp2
          go_ret
          exact ⟨rfl, below_drewN' HE.out⟩
    · have d1 : decide (2 ≤ g) = false := by simpa using hg
      rw [d1]
      go_enter Tryz.func31, Tryz.ntmps31
      go_wp2_with fail
      go_quiet (fail)
      go_wp2
      go_ret
      exact ⟨rfl, below_drewN' HE.out⟩
  · have HG := Lib.hid (liB_len hl)
    have d0 : ((xs.length : Int) == 4) = false := by simp; omega
    rw [HG.out]
    clear hl HG
    go_enter Tryz.func31, Tryz.ntmps31
    go_wp2_with fail
    go_quiet (fail)
    go_wp2
    go_ret
    exact ⟨rfl, below_drewN' HE.out⟩
set_option maxRecDepth 100000 in
set_option maxHeartbeats 2000000 in
theorem l26Linear_any (A : Option Addr) (c : Nat) (xs : List Int) (w : World) (hx : Rd (Value.int .i64) w w.heap.size A xs) (hb : ∀ x ∈ xs, -1000000000 ≤ x ∧ x ≤ 1000000000) (hm : xs.length ≤ 420) :
    Calls Tryz.prog 81 #[.slice A xs.length c] w fun e w' => e = .returned (.bool (liB xs)) ∧ Below w.heap.size w w' := by
  have HE := Lib.hid (Below.refl w.heap.size w)
  by_cases hl : xs.length = 4
  · obtain ⟨a, b, x, g, rfl⟩ := len4 hl
    obtain ⟨bb, off, rfl, hbb, hc⟩ := hx (by simp)
    have c0 := hc 0 a rfl
    have c1 := hc 1 b rfl
    have c2 := hc 2 x rfl
    have c3 := hc 3 g rfl
    rw [Nat.add_zero] at c0
    obtain ⟨a1, a2⟩ := hb a (by simp)
    obtain ⟨b1, b2⟩ := hb b (by simp)
    obtain ⟨g1, g2⟩ := hb g (by simp)
    obtain ⟨x1, x2⟩ := hb x (by simp)
    have HG : Hid (liB [a, b, x, g] = (decide (2 ≤ g) && (a.tmod g == 0 && (b.tmod g == 0 && (x.tmod g != 0))))) := rfl
    rw [HG.out]
    clear hc hb hx HG hl
    by_cases hg : 2 ≤ g
    · have d1 : decide (2 ≤ g) = true := by simpa using hg
      have v4 := tmod_m (c := a) (g := g) (by omega) a1 a2
      have v5 := tmod_m (c := b) (g := g) (by omega) b1 b2
      have v6 := tmod_m (c := x) (g := g) (by omega) x1 x2
      have e0 : ¬ (g = 0) := by omega
      rw [d1]
      cases t1 : (a.tmod g == 0)
      · go_enter Tryz.func81, Tryz.ntmps81
        go_wp2_with fail
        go_quiet (fail)
        go_wp2
        go_ret
        exact ⟨rfl, below_drewN' HE.out⟩
      · cases t2 : (b.tmod g == 0)
        · go_enter Tryz.func81, Tryz.ntmps81
          go_wp2_with fail
          go_quiet (fail)
          go_wp2
          go_ret
          exact ⟨rfl, below_drewN' HE.out⟩
        · go_enter Tryz.func81, Tryz.ntmps81
          go_wp2_with fail
          go_quiet (fail)
          go_wp2
          go_ret
          exact ⟨rfl, below_drewN' HE.out⟩
    · have d1 : decide (2 ≤ g) = false := by simpa using hg
      rw [d1]
      go_enter Tryz.func81, Tryz.ntmps81
      go_wp2_with fail
      go_quiet (fail)
      go_wp2
      go_ret
      exact ⟨rfl, below_drewN' HE.out⟩
  · have HG := Lib.hid (liB_len hl)
    have d0 : ((xs.length : Int) == 4) = false := by simp; omega
    rw [HG.out]
    clear hl HG
    go_enter Tryz.func81, Tryz.ntmps81
    go_wp2_with fail
    go_quiet (fail)
    go_wp2
    go_ret
    exact ⟨rfl, below_drewN' HE.out⟩
set_option maxRecDepth 100000 in
set_option maxHeartbeats 2000000 in
theorem checkRoot_any (A : Option Addr) (c : Nat) (xs : List Int) (w : World) (hx : Rd (Value.int .i64) w w.heap.size A xs) (hb : ∀ x ∈ xs, -1000000000 ≤ x ∧ x ≤ 1000000000) (hm : xs.length ≤ 420) :
    Calls Tryz.prog 30 #[.slice A xs.length c] w fun e w' => e = .returned (.bool (roB xs)) ∧ Below w.heap.size w w' := by
  have HE := Lib.hid (Below.refl w.heap.size w)
  by_cases hl : xs.length = 2
  · obtain ⟨n, r, rfl⟩ := len2 hl
    obtain ⟨bb, off, rfl, hbb, hc⟩ := hx (by simp)
    have c0 := hc 0 n rfl
    have c1 := hc 1 r rfl
    rw [Nat.add_zero] at c0
    obtain ⟨a1, a2⟩ := hb n (by simp)
    obtain ⟨b1, b2⟩ := hb r (by simp)
    have HG : Hid (roB [n, r] = (decide (0 ≤ r) && (decide (r * r < n) && decide (n < (r + 1) * (r + 1))))) := rfl
    obtain ⟨m1, m2⟩ := mulm ⟨b1, b2⟩ ⟨b1, b2⟩
    have m5 := mul_bd (x := r + 1) (y := r + 1) (M := 1000000001) (N := 1000000001) (by omega) (by omega) (by omega) (by omega) (by omega) (by omega)
    obtain ⟨m3, m4⟩ := m5
    have v1 : IntKind.i64.wrap (r * r) = r * r := IntWalk.i64_in _ (by omega)
    have v2 : IntKind.i64.wrap (r + 1) = r + 1 := IntWalk.i64_in _ (by omega)
    have v3 : IntKind.i64.wrap ((r + 1) * (r + 1)) = (r + 1) * (r + 1) := IntWalk.i64_in _ (by omega)
    rw [HG.out]
    clear hc hb hx HG hl
    by_cases hg : 0 ≤ r
    · have d1 : decide (0 ≤ r) = true := by simpa using hg
      rw [d1]
      by_cases h2 : r * r < n
      · have d2 : decide (r * r < n) = true := by simpa using h2
        rw [d2]
        go_enter Tryz.func30, Tryz.ntmps30
        go_wp2_with fail
        go_quiet (fail)
        go_wp2
        go_ret
        exact ⟨rfl, below_drewN' HE.out⟩
      · have d2 : decide (r * r < n) = false := by simpa using h2
        rw [d2]
        go_enter Tryz.func30, Tryz.ntmps30
        go_wp2_with fail
        go_quiet (fail)
        go_wp2
        go_ret
        exact ⟨rfl, below_drewN' HE.out⟩
    · have d1 : decide (0 ≤ r) = false := by simpa using hg
      rw [d1]
      go_enter Tryz.func30, Tryz.ntmps30
      go_wp2_with fail
      go_quiet (fail)
      go_wp2
      go_ret
      exact ⟨rfl, below_drewN' HE.out⟩
  · have HG := Lib.hid (roB_len hl)
    have d0 : ((xs.length : Int) == 2) = false := by simp; omega
    rw [HG.out]
    clear hl HG
    go_enter Tryz.func30, Tryz.ntmps30
    go_wp2_with fail
    go_quiet (fail)
    go_wp2
    go_ret
    exact ⟨rfl, below_drewN' HE.out⟩
set_option maxRecDepth 100000 in
set_option maxHeartbeats 2000000 in
theorem l26Root_any (A : Option Addr) (c : Nat) (xs : List Int) (w : World) (hx : Rd (Value.int .i64) w w.heap.size A xs) (hb : ∀ x ∈ xs, -1000000000 ≤ x ∧ x ≤ 1000000000) (hm : xs.length ≤ 420) :
    Calls Tryz.prog 80 #[.slice A xs.length c] w fun e w' => e = .returned (.bool (roB xs)) ∧ Below w.heap.size w w' := by
  have HE := Lib.hid (Below.refl w.heap.size w)
  by_cases hl : xs.length = 2
  · obtain ⟨n, r, rfl⟩ := len2 hl
    obtain ⟨bb, off, rfl, hbb, hc⟩ := hx (by simp)
    have c0 := hc 0 n rfl
    have c1 := hc 1 r rfl
    rw [Nat.add_zero] at c0
    obtain ⟨a1, a2⟩ := hb n (by simp)
    obtain ⟨b1, b2⟩ := hb r (by simp)
    have HG : Hid (roB [n, r] = (decide (0 ≤ r) && (decide (r * r < n) && decide (n < (r + 1) * (r + 1))))) := rfl
    obtain ⟨m1, m2⟩ := mulm ⟨b1, b2⟩ ⟨b1, b2⟩
    have m5 := mul_bd (x := r + 1) (y := r + 1) (M := 1000000001) (N := 1000000001) (by omega) (by omega) (by omega) (by omega) (by omega) (by omega)
    obtain ⟨m3, m4⟩ := m5
    have v1 : IntKind.i64.wrap (r * r) = r * r := IntWalk.i64_in _ (by omega)
    have v2 : IntKind.i64.wrap (r + 1) = r + 1 := IntWalk.i64_in _ (by omega)
    have v3 : IntKind.i64.wrap ((r + 1) * (r + 1)) = (r + 1) * (r + 1) := IntWalk.i64_in _ (by omega)
    rw [HG.out]
    clear hc hb hx HG hl
    by_cases hg : 0 ≤ r
    · have d1 : decide (0 ≤ r) = true := by simpa using hg
      rw [d1]
      by_cases h2 : r * r < n
      · have d2 : decide (r * r < n) = true := by simpa using h2
        rw [d2]
        go_enter Tryz.func80, Tryz.ntmps80
        go_wp2_with fail
        go_quiet (fail)
        go_wp2
        go_ret
        exact ⟨rfl, below_drewN' HE.out⟩
      · have d2 : decide (r * r < n) = false := by simpa using h2
        rw [d2]
        go_enter Tryz.func80, Tryz.ntmps80
        go_wp2_with fail
        go_quiet (fail)
        go_wp2
        go_ret
        exact ⟨rfl, below_drewN' HE.out⟩
    · have d1 : decide (0 ≤ r) = false := by simpa using hg
      rw [d1]
      go_enter Tryz.func80, Tryz.ntmps80
      go_wp2_with fail
      go_quiet (fail)
      go_wp2
      go_ret
      exact ⟨rfl, below_drewN' HE.out⟩
  · have HG := Lib.hid (roB_len hl)
    have d0 : ((xs.length : Int) == 2) = false := by simp; omega
    rw [HG.out]
    clear hl HG
    go_enter Tryz.func80, Tryz.ntmps80
    go_wp2_with fail
    go_quiet (fail)
    go_wp2
    go_ret
    exact ⟨rfl, below_drewN' HE.out⟩
end Go.Proofs.YtpgkellmhlmjeaaGreatDoor
namespace Go.Proofs.YtpgkellmhlmjeaaGreatDoor
open Go.RowKit Go.Sort
set_option maxHeartbeats 1000000 in
theorem floorSurd_any (p d q : Int) (w : World) (h : surdB p d q = true) :
    Calls Tryz.prog 145 #[surdV p d q] w fun e w' => e = .returned (.int .i64 (flS (p, d, q))) ∧ Below w.heap.size w w' := by
  obtain ⟨⟨d1, d2⟩, ⟨r1, r2⟩, ⟨p1, p2⟩, ⟨q1, q2, q0⟩, ⟨f1, f2⟩, _⟩ := step_bds h
  have HQ : Hid (∀ W, Calls Tryz.prog 54 #[.int .i64 d] W fun e w' => e = .returned (.int .i64 (rtI d)) ∧ W = w') := fun W => root_any d W (by omega) (by omega)
  have HF : Hid (flS (p, d, q) = if 0 < q then (p + rtI d) / q else -((p + rtI d) / (-q)) - 1) := rfl
  have HN : Hid (∀ x m : Int, 0 < m → -(x / m) - 1 = (-x - 1) / m) := neg_floor
  clear h
  generalize rtI d = r at *
  generalize flS (p, d, q) = a at *
  unfold surdV
  by_cases g : 0 < q
  · have HE := Lib.hid (HF.out.trans (if_pos g))
    have HD : Hid (∀ W, Calls Tryz.prog 106 #[.int .i64 (p + r), .int .i64 q] W fun e w' => e = .returned (.int .i64 ((p + r) / q)) ∧ W = w') := fun W => floorDiv_any _ _ W (by omega) (by omega) (by omega) (by omega)
    clear HF HN f1 f2
    go_enter Tryz.func145, Tryz.ntmps145
    go_wp2_with (first | (go_at_call 54; (with_reducible refine (HQ.out _).mono ?_); rintro e w' ⟨rfl, rfl⟩) | (go_at_call 106; (with_reducible refine (HD.out _).mono ?_); rintro e w' ⟨rfl, rfl⟩))
    go_ret
    exact ⟨ret_int HE.out.symm, ext1 _ _⟩
  · have HE := Lib.hid (HF.out.trans (if_neg g))
    have HX : Hid ((-(p + r) - 1) / (-q) = a) := by
      unfold Hid
      rw [HE.out, HN.out (p + r) (-q) (by omega)]
    have hq' : 1 ≤ -q := by omega
    have HD1 : Hid (∀ W, Calls Tryz.prog 106 #[.int .i64 (p + r), .int .i64 (-q)] W fun e w' => e = .returned (.int .i64 ((p + r) / (-q))) ∧ W = w') := fun W => floorDiv_any _ _ W (by omega) (by omega) (by omega) (by omega)
    have HD2 : Hid (∀ W, Calls Tryz.prog 106 #[.int .i64 (-p - r - 1), .int .i64 (-q)] W fun e w' => e = .returned (.int .i64 a) ∧ W = w') := fun W => by
      have hc : Calls Tryz.prog 106 #[.int .i64 (-p - r - 1), .int .i64 (-q)] W fun e w' => e = .returned (.int .i64 ((-p - r - 1) / (-q))) ∧ W = w' := floorDiv_any _ _ W (by omega) (by omega) (by omega) (by omega)
      have e1 : (-p - r - 1) / (-q) = a := by rw [show -p - r - 1 = -(p + r) - 1 by omega]; exact HX.out
      rw [e1] at hc
      exact hc
    have hb := ediv_bd (n := p + r) (g := -q) (M := 1001000) (by omega) (by omega) (by omega)
    obtain ⟨b1, b2⟩ := hb
    have HZ : Hid (-((p + r) / (-q)) - 1 = a) := HE.out.symm
    clear HF HN HE HX
    generalize (p + r) / (-q) = z at *
    go_enter Tryz.func145, Tryz.ntmps145
    go_wp2_with (first | (go_at_call 54; (with_reducible refine (HQ.out _).mono ?_); rintro e w' ⟨rfl, rfl⟩) | (go_at_call 106; (with_reducible refine (HD1.out _).mono ?_); rintro e w' ⟨rfl, rfl⟩) | (go_at_call 106; (with_reducible refine (HD2.out _).mono ?_); rintro e w' ⟨rfl, rfl⟩))
    go_ret
    first
      | exact ⟨rfl, ext1 _ _⟩
      | exact ⟨ret_int HZ.out, ext1 _ _⟩
set_option maxHeartbeats 1000000 in
theorem l07Floor_any (p d q : Int) (w : World) (h : surdB p d q = true) :
    Calls Tryz.prog 133 #[surdV p d q] w fun e w' => e = .returned (.int .i64 (flS (p, d, q))) ∧ Below w.heap.size w w' := by
  obtain ⟨⟨d1, d2⟩, ⟨r1, r2⟩, ⟨p1, p2⟩, ⟨q1, q2, q0⟩, ⟨f1, f2⟩, _⟩ := step_bds h
  have HQ : Hid (∀ W, Calls Tryz.prog 39 #[.int .i64 d] W fun e w' => e = .returned (.int .i64 (rtI d)) ∧ W = w') := fun W => l07Root_any d W (by omega) (by omega)
  have HF : Hid (flS (p, d, q) = if 0 < q then (p + rtI d) / q else -((p + rtI d) / (-q)) - 1) := rfl
  have HN : Hid (∀ x m : Int, 0 < m → -(x / m) - 1 = (-x - 1) / m) := neg_floor
  clear h
  generalize rtI d = r at *
  generalize flS (p, d, q) = a at *
  unfold surdV
  by_cases g : 0 < q
  · have HE := Lib.hid (HF.out.trans (if_pos g))
    have HD : Hid (∀ W, Calls Tryz.prog 137 #[.int .i64 (p + r), .int .i64 q] W fun e w' => e = .returned (.int .i64 ((p + r) / q)) ∧ W = w') := fun W => l02Floor_any _ _ W (by omega) (by omega) (by omega) (by omega)
    clear HF HN f1 f2
    go_enter Tryz.func133, Tryz.ntmps133
    go_wp2_with (first | (go_at_call 39; (with_reducible refine (HQ.out _).mono ?_); rintro e w' ⟨rfl, rfl⟩) | (go_at_call 137; (with_reducible refine (HD.out _).mono ?_); rintro e w' ⟨rfl, rfl⟩))
    go_ret
    exact ⟨ret_int HE.out.symm, ext1 _ _⟩
  · have HE := Lib.hid (HF.out.trans (if_neg g))
    have HX : Hid ((-(p + r) - 1) / (-q) = a) := by
      unfold Hid
      rw [HE.out, HN.out (p + r) (-q) (by omega)]
    have hq' : 1 ≤ -q := by omega
    have HD1 : Hid (∀ W, Calls Tryz.prog 137 #[.int .i64 (p + r), .int .i64 (-q)] W fun e w' => e = .returned (.int .i64 ((p + r) / (-q))) ∧ W = w') := fun W => l02Floor_any _ _ W (by omega) (by omega) (by omega) (by omega)
    have HD2 : Hid (∀ W, Calls Tryz.prog 137 #[.int .i64 (-p - r - 1), .int .i64 (-q)] W fun e w' => e = .returned (.int .i64 a) ∧ W = w') := fun W => by
      have hc : Calls Tryz.prog 137 #[.int .i64 (-p - r - 1), .int .i64 (-q)] W fun e w' => e = .returned (.int .i64 ((-p - r - 1) / (-q))) ∧ W = w' := l02Floor_any _ _ W (by omega) (by omega) (by omega) (by omega)
      have e1 : (-p - r - 1) / (-q) = a := by rw [show -p - r - 1 = -(p + r) - 1 by omega]; exact HX.out
      rw [e1] at hc
      exact hc
    have hb := ediv_bd (n := p + r) (g := -q) (M := 1001000) (by omega) (by omega) (by omega)
    obtain ⟨b1, b2⟩ := hb
    have HZ : Hid (-((p + r) / (-q)) - 1 = a) := HE.out.symm
    clear HF HN HE HX
    generalize (p + r) / (-q) = z at *
    go_enter Tryz.func133, Tryz.ntmps133
    go_wp2_with (first | (go_at_call 39; (with_reducible refine (HQ.out _).mono ?_); rintro e w' ⟨rfl, rfl⟩) | (go_at_call 137; (with_reducible refine (HD1.out _).mono ?_); rintro e w' ⟨rfl, rfl⟩) | (go_at_call 137; (with_reducible refine (HD2.out _).mono ?_); rintro e w' ⟨rfl, rfl⟩))
    go_ret
    first
      | exact ⟨rfl, ext1 _ _⟩
      | exact ⟨ret_int HZ.out, ext1 _ _⟩
set_option maxHeartbeats 2000000 in
theorem nextSurd_any (p d q : Int) (w : World) (h : surdB p d q = true) :
    Calls Tryz.prog 121 #[surdV p d q] w fun e w' => e = .returned (.tuple #[.int .i64 (flS (p, d, q)), surdV (npS (p, d, q)) d (nqS (p, d, q)), .bool (sdOk (nxS (p, d, q)))]) ∧ Below w.heap.size w w' := by
  obtain ⟨⟨d1, d2⟩, ⟨r1, r2⟩, ⟨p1, p2⟩, ⟨q1, q2, q0⟩, ⟨f1, f2⟩, ⟨n1, n2⟩, ⟨m1, m2⟩, ⟨k1, k2⟩, ⟨o1, o2⟩⟩ := step_bds h
  have HF : Hid (∀ W, Calls Tryz.prog 145 #[surdV p d q] W fun e w' => e = .returned (.int .i64 (flS (p, d, q))) ∧ Below W.heap.size W w') := fun W => floorSurd_any p d q W h
  have HP : Hid (flS (p, d, q) * q - p = npS (p, d, q)) := rfl
  have HQ : Hid ((d - npS (p, d, q) * npS (p, d, q)).tdiv q = nqS (p, d, q)) := rfl
  have HV : Hid (∀ W, Calls Tryz.prog 104 #[surdV (npS (p, d, q)) d (nqS (p, d, q))] W fun e w' => e = .returned (.bool (sdOk (nxS (p, d, q)))) ∧ Below W.heap.size W w') := fun W => ValidSurd_any _ _ _ W
  have e0 : (q == 0) = false := by simpa using q0
  clear h
  generalize sdOk (nxS (p, d, q)) = ok at *
  generalize flS (p, d, q) = a at *
  generalize npS (p, d, q) = np at *
  generalize nqS (p, d, q) = nq at *
  have w1 : IntKind.i64.wrap (np * np) = np * np := IntWalk.i64_in _ (by omega)
  have w2 : IntKind.i64.wrap (d - np * np) = d - np * np := IntWalk.i64_in _ (by omega)
  have w3 : IntKind.i64.wrap ((d - np * np).tdiv q) = nq := by rw [HQ.out]; exact IntWalk.i64_in _ (by omega)
  unfold surdV at *
  go_enter Tryz.func121, Tryz.ntmps121
  go_wp2_with fail
  refine (HF.out _).mono ?_
  rintro e w1 ⟨rfl, hb1⟩
  obtain ⟨hc1, hf1⟩ := bcell hb1
  have hy1 := hb1.size
  (try simp at hy1)
  have hz1_0 : w.heap.size < w1.heap.size := by omega
  have hz1_1 : w.heap.size + 1 < w1.heap.size := by omega
  have B1 : BoxV w.heap.size [.int .i64 p, .int .i64 d, .int .i64 q] w1 := ((BoxV.new w #[.int .i64 p, .int .i64 d, .int .i64 q] 46).alloc _).next hb1
  have B2 : BoxV (w.heap.size + 1) [.int .i64 0, .int .i64 0, .int .i64 0] w1 := by
    have := ((BoxV.new (w.alloc (.cells #[.int .i64 p, .int .i64 d, .int .i64 q] 46)) #[.int .i64 0, .int .i64 0, .int .i64 0] 46).next hb1)
    simpa using this
  have x0 := B1.at 0 _ rfl
  have x1 := B1.at 1 _ rfl
  have x2 := B1.at 2 _ rfl
  have H1 := Lib.hid (fun (W : World) (hb : BoxV w.heap.size [.int .i64 p, .int .i64 d, .int .i64 q] W) => And.intro (hb.at 0 _ rfl) (And.intro (hb.at 1 _ rfl) (hb.at 2 _ rfl)))
  have hlt1 := B1.lt
  go_wp2_with fail
  rw [HP.out]
  go_region_held3 (fun w' => w'.cell? ⟨w.heap.size, 0, none⟩ = some (.int .i64 p) ∧ w'.cell? ⟨w.heap.size, 1, none⟩ = some (.int .i64 d) ∧ w'.cell? ⟨w.heap.size, 2, none⟩ = some (.int .i64 q))
    (first | exact H1.out _ B1.drew | exact H1.out _ (B1.drew.alloc _) | exact H1.out _ ((((B1.drew.alloc _).setFar _ (by simp; omega)).setFar _ (by simp; omega)).setFar _ (by simp; omega)))
    (fail)
  go_wp2_with fail
  have B3 : BoxV w1.heap.size [.int .i64 np, .int .i64 d, .int .i64 nq] ((w1.alloc (.cells #[.int .i64 np, .int .i64 d, .int .i64 nq] 46)).drew) := (BoxV.new w1 #[.int .i64 np, .int .i64 d, .int .i64 nq] 46).drew
  have B4 : Hid (BoxV (w.heap.size + 1) [.int .i64 0, .int .i64 0, .int .i64 0] ((w1.alloc (.cells #[.int .i64 np, .int .i64 d, .int .i64 nq] 46)).drew)) := (B2.alloc _).drew
  have hbb : Hid (Below w.heap.size w ((w1.alloc (.cells #[.int .i64 np, .int .i64 d, .int .i64 nq] 46)).drew)) := ext_drew (ext_alloc (ext_trans (ext_alloc (ext1 _ _) _) hb1) _)
  clear x0 x1 x2 H1 B1 B2 hc1 hf1
  generalize ((w1.alloc (.cells #[.int .i64 np, .int .i64 d, .int .i64 nq] 46)).drew) = W at *
  generalize w1.heap.size = g at *
  have x0 := B3.at 0 _ rfl
  have x1 := B3.at 1 _ rfl
  have x2 := B3.at 2 _ rfl
  have H3 := Lib.hid (fun (W : World) (hb : BoxV g [.int .i64 np, .int .i64 d, .int .i64 nq] W) => And.intro (hb.at 0 _ rfl) (And.intro (hb.at 1 _ rfl) (hb.at 2 _ rfl)))
  go_region_held3 (fun w' => w'.cell? ⟨g, 0, none⟩ = some (.int .i64 np) ∧ w'.cell? ⟨g, 1, none⟩ = some (.int .i64 d) ∧ w'.cell? ⟨g, 2, none⟩ = some (.int .i64 nq))
    (first | exact H3.out _ B3.drew | exact H3.out _ (B3.drew.next (by assumption)) | exact H3.out _ ((((B3.drew.next hb4).setFar _ (by omega)).setFar _ (by omega)).setFar _ (by omega)))
    (first | (go_at_call 104; (with_reducible refine (HV.out _).mono ?_); rintro e w4 ⟨rfl, hb4⟩; have B5 := B4.out.drew.next hb4; have y0 := B5.at 0 _ rfl; have y1 := B5.at 1 _ rfl; have y2 := B5.at 2 _ rfl; have F0 := B5.f 0; have F1 := B5.f 1; have F2 := B5.f 2))
  obtain ⟨s0, s1, s2⟩ := set3 y0 y1 y2
  go_wp2
  exact bodyPost_ret (v := .tuple #[.int .i64 a, surdV np d nq, .bool ok]) (by simp [results, Tryz.results121, go_sem, s0, s1, s2]; done) rfl ⟨rfl, ext_set (ext_set (ext_set (ext_trans (ext_drew hbb.out) hb4) (by simp) _) (by simp) _) (by simp) _⟩
/-- What the reference's step returns: whether the next surd is one, and it. -/
def RetNx (w : World) (s : Sd) (e : Ending) (w' : World) : Prop :=
  ∃ t : Sd, e = .returned (.tuple #[surdV t.1 t.2.1 t.2.2, .bool (sdOk (nxS s))]) ∧ (sdOk (nxS s) = true → t = nxS s) ∧ Below w.heap.size w w'
set_option maxHeartbeats 2000000 in
theorem l07Next_any (p d q : Int) (w : World) (h : surdB p d q = true) :
    Calls Tryz.prog 134 #[surdV p d q, .int .i64 (flS (p, d, q))] w (RetNx w (p, d, q)) := by
  obtain ⟨⟨d1, d2⟩, ⟨r1, r2⟩, ⟨p1, p2⟩, ⟨q1, q2, q0⟩, ⟨f1, f2⟩, ⟨n1, n2⟩, ⟨m1, m2⟩, ⟨k1, k2⟩, ⟨o1, o2⟩⟩ := step_bds h
  have HP : Hid (flS (p, d, q) * q - p = npS (p, d, q)) := rfl
  have HQ : Hid ((d - npS (p, d, q) * npS (p, d, q)).tdiv q = nqS (p, d, q)) := rfl
  have HV : Hid (∀ W, Calls Tryz.prog 128 #[surdV (npS (p, d, q)) d (nqS (p, d, q))] W fun e w' => e = .returned (.bool (sdOk (nxS (p, d, q)))) ∧ Below W.heap.size W w') := fun W => l07Ok_any _ _ _ W
  have HOK : Hid (sdOk (nxS (p, d, q)) = surdB (npS (p, d, q)) d (nqS (p, d, q))) := rfl
  have HX : Hid (nxS (p, d, q) = (npS (p, d, q), d, nqS (p, d, q))) := rfl
  have e0 : (q == 0) = false := by simpa using q0
  clear h
  unfold RetNx
  generalize nxS (p, d, q) = X at *
  generalize hok : sdOk X = ok at *
  clear hok
  generalize flS (p, d, q) = a at *
  generalize npS (p, d, q) = np at *
  generalize nqS (p, d, q) = nq at *
  cases hin : inR np (-1000000) 1000000
  · have hf : ok = false := by
      have := HOK.out
      rw [this, surdB, hin]
      simp
    subst hf
    have HIN := Lib.hid hin
    clear HOK hin HX
    unfold surdV at *
    go_enter Tryz.func134, Tryz.ntmps134
    go_wp2_with fail
    rw [HP.out]
    have B2 : BoxV (w.heap.size + 1) [.int .i64 0, .int .i64 0, .int .i64 0] ((w.alloc (.cells #[.int .i64 p, .int .i64 d, .int .i64 q] 46)).alloc (.cells #[.int .i64 0, .int .i64 0, .int .i64 0] 46)) := by
      have := BoxV.new (w.alloc (.cells #[.int .i64 p, .int .i64 d, .int .i64 q] 46)) #[.int .i64 0, .int .i64 0, .int .i64 0] 46
      simpa using this
    have hbb := Lib.hid (ext_alloc (ext1 w (.cells #[.int .i64 p, .int .i64 d, .int .i64 q] 46)) (.cells #[.int .i64 0, .int .i64 0, .int .i64 0] 46))
    generalize ((w.alloc (.cells #[.int .i64 p, .int .i64 d, .int .i64 q] 46)).alloc (.cells #[.int .i64 0, .int .i64 0, .int .i64 0] 46)) = W at *
    obtain ⟨s0, s1, s2⟩ := set3 (B2.at 0 _ rfl) (B2.at 1 _ rfl) (B2.at 2 _ rfl)
    have y0 := B2.at 0 _ rfl
    have y1 := B2.at 1 _ rfl
    have y2 := B2.at 2 _ rfl
    have F0 := B2.f 0
    have F1 := B2.f 1
    have F2 := B2.f 2
    refine (l00In_is HIN.out _).mono ?_
    rintro e w' ⟨rfl, rfl⟩
    go_wp2
    exact bodyPost_ret (v := .tuple #[surdV 0 0 0, .bool false]) (by simp [results, Tryz.results134, go_sem, s0, s1, s2]; done) rfl ⟨(0, 0, 0), rfl, (fun h => by cases h), ext_set (ext_set (ext_set hbb.out (by simp) _) (by simp) _) (by simp) _⟩
  · have HIN := Lib.hid hin
    clear HOK hin
    have w1 : IntKind.i64.wrap (np * np) = np * np := IntWalk.i64_in _ (by omega)
    have w2 : IntKind.i64.wrap (d - np * np) = d - np * np := IntWalk.i64_in _ (by omega)
    have w3 : IntKind.i64.wrap ((d - np * np).tdiv q) = nq := by rw [HQ.out]; exact IntWalk.i64_in _ (by omega)
    unfold surdV at *
    go_enter Tryz.func134, Tryz.ntmps134
    go_wp2_with fail
    rw [HP.out]
    have B1 : BoxV w.heap.size [.int .i64 p, .int .i64 d, .int .i64 q] ((w.alloc (.cells #[.int .i64 p, .int .i64 d, .int .i64 q] 46)).alloc (.cells #[.int .i64 0, .int .i64 0, .int .i64 0] 46)) := ((BoxV.new w #[.int .i64 p, .int .i64 d, .int .i64 q] 46).alloc _)
    have B2 : BoxV (w.heap.size + 1) [.int .i64 0, .int .i64 0, .int .i64 0] ((w.alloc (.cells #[.int .i64 p, .int .i64 d, .int .i64 q] 46)).alloc (.cells #[.int .i64 0, .int .i64 0, .int .i64 0] 46)) := by
      have := BoxV.new (w.alloc (.cells #[.int .i64 p, .int .i64 d, .int .i64 q] 46)) #[.int .i64 0, .int .i64 0, .int .i64 0] 46
      simpa using this
    have hbb0 := Lib.hid (ext_alloc (ext1 w (.cells #[.int .i64 p, .int .i64 d, .int .i64 q] 46)) (.cells #[.int .i64 0, .int .i64 0, .int .i64 0] 46))
    refine (l00In_is HIN.out _).mono ?_
    rintro e w' ⟨rfl, rfl⟩
    generalize hWW : ((w.alloc (.cells #[.int .i64 p, .int .i64 d, .int .i64 q] 46)).alloc (.cells #[.int .i64 0, .int .i64 0, .int .i64 0] 46)) = W1 at *
    have hlt2 := B2.lt
    clear hWW
    have x0 := B1.at 0 _ rfl
    have x1 := B1.at 1 _ rfl
    have x2 := B1.at 2 _ rfl
    have H1 := Lib.hid (fun (W : World) (hb : BoxV w.heap.size [.int .i64 p, .int .i64 d, .int .i64 q] W) => And.intro (hb.at 0 _ rfl) (And.intro (hb.at 1 _ rfl) (hb.at 2 _ rfl)))
    go_wp2_with fail
    go_region_held3 (fun w' => w'.cell? ⟨w.heap.size, 0, none⟩ = some (.int .i64 p) ∧ w'.cell? ⟨w.heap.size, 1, none⟩ = some (.int .i64 d) ∧ w'.cell? ⟨w.heap.size, 2, none⟩ = some (.int .i64 q))
      (first | exact H1.out _ B1.drew | exact H1.out _ (B1.drew.alloc _) | exact H1.out _ ((((B1.drew.alloc _).setFar _ (by simp; omega)).setFar _ (by simp; omega)).setFar _ (by simp; omega)))
      (fail)
    go_wp2_with fail
    have B3 : BoxV W1.heap.size [.int .i64 np, .int .i64 d, .int .i64 nq] ((W1.alloc (.cells #[.int .i64 np, .int .i64 d, .int .i64 nq] 46)).drew) := (BoxV.new W1 #[.int .i64 np, .int .i64 d, .int .i64 nq] 46).drew
    have B4 : Hid (BoxV (w.heap.size + 1) [.int .i64 0, .int .i64 0, .int .i64 0] ((W1.alloc (.cells #[.int .i64 np, .int .i64 d, .int .i64 nq] 46)).drew)) := (B2.alloc _).drew
    have hbb : Hid (Below w.heap.size w ((W1.alloc (.cells #[.int .i64 np, .int .i64 d, .int .i64 nq] 46)).drew)) := ext_drew (ext_alloc hbb0.out _)
    clear x0 x1 x2 H1 B1 B2 hbb0
    generalize ((W1.alloc (.cells #[.int .i64 np, .int .i64 d, .int .i64 nq] 46)).drew) = W at *
    generalize W1.heap.size = g at *
    have x0 := B3.at 0 _ rfl
    have x1 := B3.at 1 _ rfl
    have x2 := B3.at 2 _ rfl
    have H3 := Lib.hid (fun (W : World) (hb : BoxV g [.int .i64 np, .int .i64 d, .int .i64 nq] W) => And.intro (hb.at 0 _ rfl) (And.intro (hb.at 1 _ rfl) (hb.at 2 _ rfl)))
    go_region_held3 (fun w' => w'.cell? ⟨g, 0, none⟩ = some (.int .i64 np) ∧ w'.cell? ⟨g, 1, none⟩ = some (.int .i64 d) ∧ w'.cell? ⟨g, 2, none⟩ = some (.int .i64 nq))
      (first | exact H3.out _ B3.drew | exact H3.out _ (B3.drew.next (by assumption)) | exact H3.out _ ((((B3.drew.next hb4).setFar _ (by omega)).setFar _ (by omega)).setFar _ (by omega)))
      (first | (go_at_call 128; (with_reducible refine (HV.out _).mono ?_); rintro e w4 ⟨rfl, hb4⟩; have B5 := B4.out.drew.next hb4; have y0 := B5.at 0 _ rfl; have y1 := B5.at 1 _ rfl; have y2 := B5.at 2 _ rfl; have F0 := B5.f 0; have F1 := B5.f 1; have F2 := B5.f 2))
    obtain ⟨s0, s1, s2⟩ := set3 y0 y1 y2
    go_wp2
    exact bodyPost_ret (v := .tuple #[surdV np d nq, .bool ok]) (by simp [results, Tryz.results134, go_sem, s0, s1, s2]; done) rfl ⟨(np, d, nq), rfl, (fun _ => HX.out.symm), ext_set (ext_set (ext_set (ext_trans (ext_drew hbb.out) hb4) (by simp) _) (by simp) _) (by simp) _⟩
end Go.Proofs.YtpgkellmhlmjeaaGreatDoor
