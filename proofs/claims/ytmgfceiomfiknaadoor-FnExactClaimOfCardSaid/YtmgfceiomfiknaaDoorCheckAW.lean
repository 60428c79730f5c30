/- Certificates: which have their bounds; the first three kinds: both walks. No condition but those that each theorem names. -/
import Derived.Test.YtmgfceiomfiknaaDoorCheckP
import Derived.Test.YtmgfceiomfiknaaDoorNameW
import Derived.Test.YtmgfceiomfiknaaDoorBoxW
namespace Go.Proofs.YtmgfceiomfiknaaDoor
open Go.RowKit Go.Sort

theorem below_drewN' {B n : Nat} {w w' : World} (h : Below B w w') : Below B w (w'.drewN n) := ⟨h.os, h.tape, h.output, h.size, h.block⟩
/-- A certificate has a kind, and not too many and not too great numbers. -/
def nbB (xs : List Int) : Bool := decide (xs.length ≤ 420) && xs.all modB
def bdC (kk : Int) (xs : List Int) : Bool := inR kk 1 6 && nbB xs
theorem nbB_all {xs : List Int} (h : nbB xs = true) : xs.length ≤ 420 ∧ ∀ x ∈ xs, -1000000000 ≤ x ∧ x ≤ 1000000000 := by
  unfold nbB at h
  rw [Bool.and_eq_true, decide_eq_true_iff] at h
  exact ⟨h.1, fun x hx => modB_true.1 (List.all_eq_true.1 h.2 x hx)⟩
theorem bcF_any (x : Int) (w : World) : Calls Tryd.prog 45 #[.int .i64 x] w fun e w' => e = .returned (.bool (!modB x)) ∧ w = w' := by
  go_enter Tryd.func45, Tryd.ntmps45
  go_wp2_with (go_at_call 46; refine (isModerate_any _ _).mono ?_; rintro e w' ⟨rfl, rfl⟩)
  go_ret
  exact ⟨rfl, rfl⟩
set_option maxHeartbeats 1000000 in
theorem isBoundedCert_any (kk : Int) (A : Option Addr) (c : Nat) (xs : List Int) (w : World) (hx : Rd (Value.int .i64) w w.heap.size A xs) (hm : xs.length ≤ maxLen) :
    Calls Tryd.prog 23 #[certV kk A xs.length c] w fun e w' => e = .returned (.bool (bdC kk xs)) ∧ Below w.heap.size w w' := by
  have HX : Hid (Rd (Value.int .i64) (w.alloc (.cells #[.int .i64 kk, .slice A xs.length c] 27)) (w.alloc (.cells #[.int .i64 kk, .slice A xs.length c] 27)).heap.size A xs) := (hx.below (ext1 _ _)).more (by simp)
  have HC := Lib.hid (containsFuncBC_any (fun x => !modB x) (fun x W => bcF_any x W) A c xs _ HX.out hm)
  have HA : Hid (xs.any (fun x => !modB x) = !xs.all modB) := by unfold Hid; rw [List.all_eq_not_any_not]; simp
  have HB : Hid (bdC kk xs = (inR kk 1 6 && (decide (xs.length ≤ 420) && xs.all modB))) := rfl
  rw [HA.out] at HC
  rw [HB.out]
  clear hx HA HB
  generalize xs.all modB = al at *
  unfold certV
  cases h1 : inR kk 1 6
  · go_enter Tryd.func23, Tryd.ntmps23
    go_wp2_with (go_at_call 43; (with_reducible refine (within_is h1 _).mono ?_); rintro e w' ⟨rfl, rfl⟩)
    go_ret
    exact ⟨rfl, ext1 _ _⟩
  · by_cases h2 : xs.length ≤ 420
    · have d2 : decide ((xs.length : Int) ≤ 420) = true := by simp; omega
      have d2n : decide (xs.length ≤ 420) = true := by simp; omega
      rw [d2n]
      go_enter Tryd.func23, Tryd.ntmps23
      go_wp2_with (first | (go_at_call 43; (with_reducible refine (within_is h1 _).mono ?_); rintro e w' ⟨rfl, rfl⟩) | (go_at_call 44; (with_reducible refine HC.out.mono ?_); rintro e w' ⟨rfl, rfl⟩))
      go_ret
      exact ⟨ret_bool (by simp), ext1 _ _⟩
    · have d2 : decide ((xs.length : Int) ≤ 420) = false := by simp; omega
      have d2n : decide (xs.length ≤ 420) = false := by simp; omega
      rw [d2n]
      go_enter Tryd.func23, Tryd.ntmps23
      go_wp2_with (first | (go_at_call 43; (with_reducible refine (within_is h1 _).mono ?_); rintro e w' ⟨rfl, rfl⟩))
      go_ret
      exact ⟨rfl, ext1 _ _⟩
set_option maxHeartbeats 1000000 in
theorem l26Fits_any (g : Nat) (A : Option Addr) (c : Nat) (xs : List Int) (w : World) (hx : Rd (Value.int .i64) w w.heap.size A xs) (hm : xs.length ≤ maxLen) (c1 : w.cell? ⟨g, 1, none⟩ = some (.slice A xs.length c)) :
    Calls Tryd.prog 20 #[.pointer (some ⟨g, 0, none⟩)] w fun e w' => e = .returned (.bool (nbB xs)) ∧ w = w' := by
  unfold maxLen at hm
  have HX := Lib.hid hx
  clear hx
  go_enter Tryd.func20, Tryd.ntmps20
  go_wp2_with fail
  go_loop [3] (fun t => ∃ k : Nat, k ≤ xs.length ∧ t = .int .i64 k ∧ Hid ((xs.take k).all modB = true)) (fun t => xs.length - (intOf t).toNat)
  case atStart => exact ⟨0, by omega, rfl, by simp [Hid]⟩
  case round =>
    obtain ⟨k, hk, rfl, HK⟩ := hrel
    by_cases hlt : k < xs.length
    · obtain ⟨b, off, rfl, hb, hc⟩ := HX.out (by omega)
      obtain ⟨x, hxk⟩ : ∃ x, xs[k]? = some x := ⟨_, List.getElem?_eq_getElem hlt⟩
      have cx := hc k x hxk
      have i0 : (0 : Int) ≤ (k : Int) := by omega
      have i1 : (k : Int) < (xs.length : Int) := by omega
      have HM := Lib.hid (fun W : World => l26Num_any x W)
      cases hmd : modB x
      · have HE : Hid (nbB xs = false) := by
          unfold Hid nbB
          rw [allN hxk hmd, Bool.and_false]
        rw [hmd] at HM
        clear hc hxk hmd
        go_wp2_with (go_at_call 41; (with_reducible refine (HM.out _).mono ?_); rintro e w' ⟨rfl, rfl⟩)
        go_ret
        exact ⟨ret_bool HE.out.symm, rfl⟩
      · have HE := Lib.hid (allT HK.out hxk hmd)
        rw [hmd] at HM
        clear hc hxk hmd
        go_wp2_with (go_at_call 41; (with_reducible refine (HM.out _).mono ?_); rintro e w' ⟨rfl, rfl⟩)
        go_round
        case rel => exact ⟨k + 1, by omega, by go_num, HE.out⟩
        case measure => simp [intOf]; omega
    · have HE : Hid (decide (xs.length ≤ 420) = nbB xs) := by
        have h := HK.out
        rw [List.take_of_length_le (by omega)] at h
        unfold Hid nbB
        rw [h, Bool.and_true]
      have i1 : ¬ (k : Int) < (xs.length : Int) := by omega
      go_wp2
      go_ret
      exact ⟨ret_bool (HE.out ▸ (by rw [Bool.eq_iff_iff]; simp; omega)), rfl⟩
theorem tmod_m {c g : Int} (hg : 0 < g) (h1 : -1000000000 ≤ c) (h2 : c ≤ 1000000000) : IntKind.i64.wrap (c.tmod g) = c.tmod g := IntWalk.i64_in _ (by have := tmod_bd1 hg h1 h2; omega)
theorem mulm {x y : Int} (h1 : -1000000000 ≤ x ∧ x ≤ 1000000000) (h2 : -1000000000 ≤ y ∧ y ≤ 1000000000) : -1000000000000000000 ≤ x * y ∧ x * y ≤ 1000000000000000000 := by
  have := mul_bd (x := x) (y := y) (M := 1000000000) (N := 1000000000) (by omega) h1.2 (by omega) h2.2 h1.1 h2.1
  omega
set_option maxRecDepth 100000 in
set_option maxHeartbeats 2000000 in
theorem checkGcd_any (A : Option Addr) (c : Nat) (xs : List Int) (w : World) (hx : Rd (Value.int .i64) w w.heap.size A xs) (hb : ∀ x ∈ xs, -1000000000 ≤ x ∧ x ≤ 1000000000) (hm : xs.length ≤ 420) :
    Calls Tryd.prog 66 #[.slice A xs.length c] w fun e w' => e = .returned (.bool (gcB xs)) ∧ Below w.heap.size w w' := by
  have HE := Lib.hid (Below.refl w.heap.size w)
  by_cases hl : xs.length = 5
  · obtain ⟨a, b, g, x, y, rfl⟩ := len5 hl
    obtain ⟨bb, off, rfl, hbb, hc⟩ := hx (by simp)
    have c0 := hc 0 a rfl
    have c1 := hc 1 b rfl
    have c2 := hc 2 g rfl
    have c3 := hc 3 x rfl
    have c4 := hc 4 y rfl
    rw [Nat.add_zero] at c0
    obtain ⟨a1, a2⟩ := hb a (by simp)
    obtain ⟨b1, b2⟩ := hb b (by simp)
    obtain ⟨g1, g2⟩ := hb g (by simp)
    obtain ⟨x1, x2⟩ := hb x (by simp)
    obtain ⟨y1, y2⟩ := hb y (by simp)
    have HG : Hid (gcB [a, b, g, x, y] = (decide (1 ≤ g) && (a.tmod g == 0 && (b.tmod g == 0 && (a * x + b * y == g))))) := rfl
    obtain ⟨m1, m2⟩ := mulm ⟨a1, a2⟩ ⟨x1, x2⟩
    obtain ⟨m3, m4⟩ := mulm ⟨b1, b2⟩ ⟨y1, y2⟩
    have v1 : IntKind.i64.wrap (a * x) = a * x := IntWalk.i64_in _ (by omega)
    have v2 : IntKind.i64.wrap (b * y) = b * y := IntWalk.i64_in _ (by omega)
    have v3 : IntKind.i64.wrap (a * x + b * y) = a * x + b * y := IntWalk.i64_in _ (by omega)
    rw [HG.out]
    clear hc hb hx HG hl
    by_cases hg : 1 ≤ g
    · have d1 : decide (1 ≤ g) = true := by simpa using hg
      have v4 := tmod_m (c := a) (g := g) (by omega) a1 a2
      have v5 := tmod_m (c := b) (g := g) (by omega) b1 b2
      have e0 : ¬ (g = 0) := by omega
      rw [d1]
      cases t1 : (a.tmod g == 0)
      · go_enter Tryd.func66, Tryd.ntmps66
        go_wp2_with fail
        go_quiet (fail)
        go_wp2
        go_ret
        exact ⟨rfl, below_drewN' HE.out⟩
      · cases t2 : (b.tmod g == 0)
        · go_enter Tryd.func66, Tryd.ntmps66
          go_wp2_with fail
          go_quiet (fail)
          go_wp2
          go_ret
          exact ⟨rfl, below_drewN' HE.out⟩
        · go_enter Tryd.func66, Tryd.ntmps66
          go_wp2_with fail
          go_quiet (fail)
          go_wp2
          go_ret
          exact ⟨rfl, below_drewN' HE.out⟩
    · have d1 : decide (1 ≤ g) = false := by simpa using hg
      rw [d1]
      go_enter Tryd.func66, Tryd.ntmps66
      go_wp2_with fail
      go_quiet (fail)
      go_wp2
      go_ret
      exact ⟨rfl, below_drewN' HE.out⟩
  · have HG := Lib.hid (gcB_len hl)
    have d0 : ((xs.length : Int) == 5) = false := by simp; omega
    rw [HG.out]
    clear hl HG
    go_enter Tryd.func66, Tryd.ntmps66
    go_wp2_with fail
    go_quiet (fail)
    go_wp2
    go_ret
    exact ⟨rfl, below_drewN' HE.out⟩
set_option maxRecDepth 100000 in
set_option maxHeartbeats 2000000 in
theorem l26Gcd_any (A : Option Addr) (c : Nat) (xs : List Int) (w : World) (hx : Rd (Value.int .i64) w w.heap.size A xs) (hb : ∀ x ∈ xs, -1000000000 ≤ x ∧ x ≤ 1000000000) (hm : xs.length ≤ 420) :
    Calls Tryd.prog 60 #[.slice A xs.length c] w fun e w' => e = .returned (.bool (gcB xs)) ∧ Below w.heap.size w w' := by
  have HE := Lib.hid (Below.refl w.heap.size w)
  by_cases hl : xs.length = 5
  · obtain ⟨a, b, g, x, y, rfl⟩ := len5 hl
    obtain ⟨bb, off, rfl, hbb, hc⟩ := hx (by simp)
    have c0 := hc 0 a rfl
    have c1 := hc 1 b rfl
    have c2 := hc 2 g rfl
    have c3 := hc 3 x rfl
    have c4 := hc 4 y rfl
    rw [Nat.add_zero] at c0
    obtain ⟨a1, a2⟩ := hb a (by simp)
    obtain ⟨b1, b2⟩ := hb b (by simp)
    obtain ⟨g1, g2⟩ := hb g (by simp)
    obtain ⟨x1, x2⟩ := hb x (by simp)
    obtain ⟨y1, y2⟩ := hb y (by simp)
    have HG : Hid (gcB [a, b, g, x, y] = (decide (1 ≤ g) && (a.tmod g == 0 && (b.tmod g == 0 && (a * x + b * y == g))))) := rfl
    obtain ⟨m1, m2⟩ := mulm ⟨a1, a2⟩ ⟨x1, x2⟩
    obtain ⟨m3, m4⟩ := mulm ⟨b1, b2⟩ ⟨y1, y2⟩
    have v1 : IntKind.i64.wrap (a * x) = a * x := IntWalk.i64_in _ (by omega)
    have v2 : IntKind.i64.wrap (b * y) = b * y := IntWalk.i64_in _ (by omega)
    have v3 : IntKind.i64.wrap (a * x + b * y) = a * x + b * y := IntWalk.i64_in _ (by omega)
    rw [HG.out]
    clear hc hb hx HG hl
    by_cases hg : 1 ≤ g
    · have d1 : decide (1 ≤ g) = true := by simpa using hg
      have v4 := tmod_m (c := a) (g := g) (by omega) a1 a2
      have v5 := tmod_m (c := b) (g := g) (by omega) b1 b2
      have e0 : ¬ (g = 0) := by omega
      rw [d1]
      cases t1 : (a.tmod g == 0)
      · go_enter Tryd.func60, Tryd.ntmps60
        go_wp2_with fail
        go_quiet (fail)
        go_wp2
        go_ret
        exact ⟨rfl, below_drewN' HE.out⟩
      · cases t2 : (b.tmod g == 0)
        · go_enter Tryd.func60, Tryd.ntmps60
          go_wp2_with fail
          go_quiet (fail)
          go_wp2
          go_ret
          exact ⟨rfl, below_drewN' HE.out⟩
        · go_enter Tryd.func60, Tryd.ntmps60
          go_wp2_with fail
          go_quiet (fail)
          go_wp2
          go_ret
          exact ⟨rfl, below_drewN' HE.out⟩
    · have d1 : decide (1 ≤ g) = false := by simpa using hg
      rw [d1]
      go_enter Tryd.func60, Tryd.ntmps60
      go_wp2_with fail
      go_quiet (fail)
      go_wp2
      go_ret
      exact ⟨rfl, below_drewN' HE.out⟩
  · have HG := Lib.hid (gcB_len hl)
    have d0 : ((xs.length : Int) == 5) = false := by simp; omega
    rw [HG.out]
    clear hl HG
    go_enter Tryd.func60, Tryd.ntmps60
    go_wp2_with fail
    go_quiet (fail)
    go_wp2
    go_ret
    exact ⟨rfl, below_drewN' HE.out⟩
set_option maxRecDepth 100000 in
set_option maxHeartbeats 2000000 in
theorem checkLinear_any (A : Option Addr) (c : Nat) (xs : List Int) (w : World) (hx : Rd (Value.int .i64) w w.heap.size A xs) (hb : ∀ x ∈ xs, -1000000000 ≤ x ∧ x ≤ 1000000000) (hm : xs.length ≤ 420) :
    Calls Tryd.prog 68 #[.slice A xs.length c] w fun e w' => e = .returned (.bool (liB xs)) ∧ Below w.heap.size w w' := by
  have HE := Lib.hid (Below.refl w.heap.size w)
  by_cases hl : xs.length = 4
  · obtain ⟨a, b, x, g, rfl⟩ := len4 hl
    obtain ⟨bb, off, rfl, hbb, hc⟩ := hx (by simp)
    have c0 := hc 0 a rfl
    have c1 := hc 1 b rfl
    have c2 := hc 2 x rfl
    have c3 := hc 3 g rfl
    rw [Nat.add_zero] at c0
    obtain ⟨a1, a2⟩ := hb a (by simp)
    obtain ⟨b1, b2⟩ := hb b (by simp)
    obtain ⟨g1, g2⟩ := hb g (by simp)
    obtain ⟨x1, x2⟩ := hb x (by simp)
    have HG : Hid (liB [a, b, x, g] = (decide (2 ≤ g) && (a.tmod g == 0 && (b.tmod g == 0 && (x.tmod g != 0))))) := rfl
    rw [HG.out]
    clear hc hb hx HG hl
    by_cases hg : 2 ≤ g
    · have d1 : decide (2 ≤ g) = true := by simpa using hg
      have v4 := tmod_m (c := a) (g := g) (by omega) a1 a2
      have v5 := tmod_m (c := b) (g := g) (by omega) b1 b2
      have v6 := tmod_m (c := x) (g := g) (by omega) x1 x2
      have e0 : ¬ (g = 0) := by omega
      rw [d1]
      cases t1 : (a.tmod g == 0)
      · go_enter Tryd.func68, Tryd.ntmps68
        go_wp2_with fail
        go_quiet (fail)
        go_wp2
        go_ret
        exact ⟨rfl, below_drewN' HE.out⟩
      · cases t2 : (b.tmod g == 0)
        · go_enter Tryd.func68, Tryd.ntmps68
          go_wp2_with fail
          go_quiet (fail)
          go_wp2
          go_ret
          exact ⟨rfl, below_drewN' HE.out⟩
        · go_enter Tryd.func68, Tryd.ntmps68
          go_wp2_with fail
          go_quiet (fail)
          go_wp2
          go_ret
          exact ⟨rfl, below_drewN' HE.out⟩
    · have d1 : decide (2 ≤ g) = false := by simpa using hg
      rw [d1]
      go_enter Tryd.func68, Tryd.ntmps68
      go_wp2_with fail
      go_quiet (fail)
      go_wp2
      go_ret
      exact ⟨rfl, below_drewN' HE.out⟩
  · have HG := Lib.hid (liB_len hl)
    have d0 : ((xs.length : Int) == 4) = false := by simp; omega
    rw [HG.out]
    clear hl HG
    go_enter Tryd.func68, Tryd.ntmps68
    go_wp2_with fail
    go_quiet (fail)
    go_wp2
    go_ret
    exact ⟨rfl, below_drewN' HE.out⟩
set_option maxRecDepth 100000 in
set_option maxHeartbeats 2000000 in
theorem l26Linear_any (A : Option Addr) (c : Nat) (xs : List Int) (w : World) (hx : Rd (Value.int .i64) w w.heap.size A xs) (hb : ∀ x ∈ xs, -1000000000 ≤ x ∧ x ≤ 1000000000) (hm : xs.length ≤ 420) :
    Calls Tryd.prog 62 #[.slice A xs.length c] w fun e w' => e = .returned (.bool (liB xs)) ∧ Below w.heap.size w w' := by
  have HE := Lib.hid (Below.refl w.heap.size w)
  by_cases hl : xs.length = 4
  · obtain ⟨a, b, x, g, rfl⟩ := len4 hl
    obtain ⟨bb, off, rfl, hbb, hc⟩ := hx (by simp)
    have c0 := hc 0 a rfl
    have c1 := hc 1 b rfl
    have c2 := hc 2 x rfl
    have c3 := hc 3 g rfl
    rw [Nat.add_zero] at c0
    obtain ⟨a1, a2⟩ := hb a (by simp)
    obtain ⟨b1, b2⟩ := hb b (by simp)
    obtain ⟨g1, g2⟩ := hb g (by simp)
    obtain ⟨x1, x2⟩ := hb x (by simp)
    have HG : Hid (liB [a, b, x, g] = (decide (2 ≤ g) && (a.tmod g == 0 && (b.tmod g == 0 && (x.tmod g != 0))))) := rfl
    rw [HG.out]
    clear hc hb hx HG hl
    by_cases hg : 2 ≤ g
    · have d1 : decide (2 ≤ g) = true := by simpa using hg
      have v4 := tmod_m (c := a) (g := g) (by omega) a1 a2
      have v5 := tmod_m (c := b) (g := g) (by omega) b1 b2
      have v6 := tmod_m (c := x) (g := g) (by omega) x1 x2
      have e0 : ¬ (g = 0) := by omega
      rw [d1]
      cases t1 : (a.tmod g == 0)
      · go_enter Tryd.func62, Tryd.ntmps62
        go_wp2_with fail
        go_quiet (fail)
        go_wp2
        go_ret
        exact ⟨rfl, below_drewN' HE.out⟩
      · cases t2 : (b.tmod g == 0)
        · go_enter Tryd.func62, Tryd.ntmps62
          go_wp2_with fail
          go_quiet (fail)
          go_wp2
          go_ret
          exact ⟨rfl, below_drewN' HE.out⟩
        · go_enter Tryd.func62, Tryd.ntmps62
          go_wp2_with fail
          go_quiet (fail)
          go_wp2
          go_ret
          exact ⟨rfl, below_drewN' HE.out⟩
    · have d1 : decide (2 ≤ g) = false := by simpa using hg
      rw [d1]
      go_enter Tryd.func62, Tryd.ntmps62
      go_wp2_with fail
      go_quiet (fail)
      go_wp2
      go_ret
      exact ⟨rfl, below_drewN' HE.out⟩
  · have HG := Lib.hid (liB_len hl)
    have d0 : ((xs.length : Int) == 4) = false := by simp; omega
    rw [HG.out]
    clear hl HG
    go_enter Tryd.func62, Tryd.ntmps62
    go_wp2_with fail
    go_quiet (fail)
    go_wp2
    go_ret
    exact ⟨rfl, below_drewN' HE.out⟩
set_option maxRecDepth 100000 in
set_option maxHeartbeats 2000000 in
theorem checkRoot_any (A : Option Addr) (c : Nat) (xs : List Int) (w : World) (hx : Rd (Value.int .i64) w w.heap.size A xs) (hb : ∀ x ∈ xs, -1000000000 ≤ x ∧ x ≤ 1000000000) (hm : xs.length ≤ 420) :
    Calls Tryd.prog 67 #[.slice A xs.length c] w fun e w' => e = .returned (.bool (roB xs)) ∧ Below w.heap.size w w' := by
  have HE := Lib.hid (Below.refl w.heap.size w)
  by_cases hl : xs.length = 2
  · obtain ⟨n, r, rfl⟩ := len2 hl
    obtain ⟨bb, off, rfl, hbb, hc⟩ := hx (by simp)
    have c0 := hc 0 n rfl
    have c1 := hc 1 r rfl
    rw [Nat.add_zero] at c0
    obtain ⟨a1, a2⟩ := hb n (by simp)
    obtain ⟨b1, b2⟩ := hb r (by simp)
    have HG : Hid (roB [n, r] = (decide (0 ≤ r) && (decide (r * r < n) && decide (n < (r + 1) * (r + 1))))) := rfl
    obtain ⟨m1, m2⟩ := mulm ⟨b1, b2⟩ ⟨b1, b2⟩
    have m5 := mul_bd (x := r + 1) (y := r + 1) (M := 1000000001) (N := 1000000001) (by omega) (by omega) (by omega) (by omega) (by omega) (by omega)
    obtain ⟨m3, m4⟩ := m5
    have v1 : IntKind.i64.wrap (r * r) = r * r := IntWalk.i64_in _ (by omega)
    have v2 : IntKind.i64.wrap (r + 1) = r + 1 := IntWalk.i64_in _ (by omega)
    have v3 : IntKind.i64.wrap ((r + 1) * (r + 1)) = (r + 1) * (r + 1) := IntWalk.i64_in _ (by omega)
    rw [HG.out]
    clear hc hb hx HG hl
    by_cases hg : 0 ≤ r
    · have d1 : decide (0 ≤ r) = true := by simpa using hg
      rw [d1]
      by_cases h2 : r * r < n
      · have d2 : decide (r * r < n) = true := by simpa using h2
        rw [d2]
        go_enter Tryd.func67, Tryd.ntmps67
        go_wp2_with fail
        go_quiet (fail)
        go_wp2
        go_ret
        exact ⟨rfl, below_drewN' HE.out⟩
      · have d2 : decide (r * r < n) = false := by simpa using h2
        rw [d2]
        go_enter Tryd.func67, Tryd.ntmps67
        go_wp2_with fail
        go_quiet (fail)
        go_wp2
        go_ret
        exact ⟨rfl, below_drewN' HE.out⟩
    · have d1 : decide (0 ≤ r) = false := by simpa using hg
      rw [d1]
      go_enter Tryd.func67, Tryd.ntmps67
      go_wp2_with fail
      go_quiet (fail)
      go_wp2
      go_ret
      exact ⟨rfl, below_drewN' HE.out⟩
  · have HG := Lib.hid (roB_len hl)
    have d0 : ((xs.length : Int) == 2) = false := by simp; omega
    rw [HG.out]
    clear hl HG
    go_enter Tryd.func67, Tryd.ntmps67
    go_wp2_with fail
    go_quiet (fail)
    go_wp2
    go_ret
    exact ⟨rfl, below_drewN' HE.out⟩
set_option maxRecDepth 100000 in
set_option maxHeartbeats 2000000 in
theorem l26Root_any (A : Option Addr) (c : Nat) (xs : List Int) (w : World) (hx : Rd (Value.int .i64) w w.heap.size A xs) (hb : ∀ x ∈ xs, -1000000000 ≤ x ∧ x ≤ 1000000000) (hm : xs.length ≤ 420) :
    Calls Tryd.prog 61 #[.slice A xs.length c] w fun e w' => e = .returned (.bool (roB xs)) ∧ Below w.heap.size w w' := by
  have HE := Lib.hid (Below.refl w.heap.size w)
  by_cases hl : xs.length = 2
  · obtain ⟨n, r, rfl⟩ := len2 hl
    obtain ⟨bb, off, rfl, hbb, hc⟩ := hx (by simp)
    have c0 := hc 0 n rfl
    have c1 := hc 1 r rfl
    rw [Nat.add_zero] at c0
    obtain ⟨a1, a2⟩ := hb n (by simp)
    obtain ⟨b1, b2⟩ := hb r (by simp)
    have HG : Hid (roB [n, r] = (decide (0 ≤ r) && (decide (r * r < n) && decide (n < (r + 1) * (r + 1))))) := rfl
    obtain ⟨m1, m2⟩ := mulm ⟨b1, b2⟩ ⟨b1, b2⟩
    have m5 := mul_bd (x := r + 1) (y := r + 1) (M := 1000000001) (N := 1000000001) (by omega) (by omega) (by omega) (by omega) (by omega) (by omega)
    obtain ⟨m3, m4⟩ := m5
    have v1 : IntKind.i64.wrap (r * r) = r * r := IntWalk.i64_in _ (by omega)
    have v2 : IntKind.i64.wrap (r + 1) = r + 1 := IntWalk.i64_in _ (by omega)
    have v3 : IntKind.i64.wrap ((r + 1) * (r + 1)) = (r + 1) * (r + 1) := IntWalk.i64_in _ (by omega)
    rw [HG.out]
    clear hc hb hx HG hl
    by_cases hg : 0 ≤ r
    · have d1 : decide (0 ≤ r) = true := by simpa using hg
      rw [d1]
      by_cases h2 : r * r < n
      · have d2 : decide (r * r < n) = true := by simpa using h2
        rw [d2]
        go_enter Tryd.func61, Tryd.ntmps61
        go_wp2_with fail
        go_quiet (fail)
        go_wp2
        go_ret
        exact ⟨rfl, below_drewN' HE.out⟩
      · have d2 : decide (r * r < n) = false := by simpa using h2
        rw [d2]
        go_enter Tryd.func61, Tryd.ntmps61
        go_wp2_with fail
        go_quiet (fail)
        go_wp2
        go_ret
        exact ⟨rfl, below_drewN' HE.out⟩
    · have d1 : decide (0 ≤ r) = false := by simpa using hg
      rw [d1]
      go_enter Tryd.func61, Tryd.ntmps61
      go_wp2_with fail
      go_quiet (fail)
      go_wp2
      go_ret
      exact ⟨rfl, below_drewN' HE.out⟩
  · have HG := Lib.hid (roB_len hl)
    have d0 : ((xs.length : Int) == 2) = false := by simp; omega
    rw [HG.out]
    clear hl HG
    go_enter Tryd.func61, Tryd.ntmps61
    go_wp2_with fail
    go_quiet (fail)
    go_wp2
    go_ret
    exact ⟨rfl, below_drewN' HE.out⟩
end Go.Proofs.YtmgfceiomfiknaaDoor
