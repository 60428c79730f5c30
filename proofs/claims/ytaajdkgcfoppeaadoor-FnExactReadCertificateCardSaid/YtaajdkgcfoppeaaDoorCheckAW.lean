/- Certificates: which have their bounds; the first three kinds: both walks. No condition but those that each theorem names. -/
import Derived.Test.YtaajdkgcfoppeaaDoorCheckP
import Derived.Test.YtaajdkgcfoppeaaDoorNameW
import Derived.Test.YtaajdkgcfoppeaaDoorBoxW
namespace Go.Proofs.YtaajdkgcfoppeaaDoor
open Go.RowKit Go.Sort

theorem below_drewN' {B n : Nat} {w w' : World} (h : Below B w w') : Below B w (w'.drewN n) := ⟨h.os, h.tape, h.output, h.size, h.block⟩
/-- A certificate has a kind, and not too many and not too great numbers. -/
def nbB (xs : List Int) : Bool := decide (xs.length ≤ 420) && xs.all modB
def bdC (kk : Int) (xs : List Int) : Bool := inR kk 1 6 && nbB xs
theorem nbB_all {xs : List Int} (h : nbB xs = true) : xs.length ≤ 420 ∧ ∀ x ∈ xs, -1000000000 ≤ x ∧ x ≤ 1000000000 := by
  unfold nbB at h
  rw [Bool.and_eq_true, decide_eq_true_iff] at h
  exact ⟨h.1, fun x hx => modB_true.1 (List.all_eq_true.1 h.2 x hx)⟩
theorem bcF_any (x : Int) (w : World) : Calls Tryd.prog 36 #[.int .i64 x] w fun e w' => e = .returned (.bool (!modB x)) ∧ w = w' := by
  go_enter Tryd.func36, Tryd.ntmps36
  go_wp2_with (go_at_call 37; refine (isModerate_any _ _).mono ?_; rintro e w' ⟨rfl, rfl⟩)
  go_ret
  exact ⟨rfl, rfl⟩
set_option maxHeartbeats 1000000 in
theorem isBoundedCert_any (kk : Int) (A : Option Addr) (c : Nat) (xs : List Int) (w : World) (hx : Rd (Value.int .i64) w w.heap.size A xs) (hm : xs.length ≤ maxLen) :
    Calls Tryd.prog 26 #[certV kk A xs.length c] w fun e w' => e = .returned (.bool (bdC kk xs)) ∧ Below w.heap.size w w' := by
  have HX : Hid (Rd (Value.int .i64) (w.alloc (.cells #[.int .i64 kk, .slice A xs.length c] 24)) (w.alloc (.cells #[.int .i64 kk, .slice A xs.length c] 24)).heap.size A xs) := (hx.below (ext1 _ _)).more (by simp)
  have HC := Lib.hid (containsFuncBC_any (fun x => !modB x) (fun x W => bcF_any x W) A c xs _ HX.out hm)
  have HA : Hid (xs.any (fun x => !modB x) = !xs.all modB) := by unfold Hid; rw [List.all_eq_not_any_not]; simp
  have HB : Hid (bdC kk xs = (inR kk 1 6 && (decide (xs.length ≤ 420) && xs.all modB))) := rfl
  rw [HA.out] at HC
  rw [HB.out]
  clear hx HA HB
  generalize xs.all modB = al at *
  unfold certV
  cases h1 : inR kk 1 6
  · go_enter Tryd.func26, Tryd.ntmps26
    go_wp2_with (go_at_call 34; (with_reducible refine (within_is h1 _).mono ?_); rintro e w' ⟨rfl, rfl⟩)
    go_ret
    exact ⟨rfl, ext1 _ _⟩
  · by_cases h2 : xs.length ≤ 420
    · have d2 : decide ((xs.length : Int) ≤ 420) = true := by simp; omega
      have d2n : decide (xs.length ≤ 420) = true := by simp; omega
      rw [d2n]
      go_enter Tryd.func26, Tryd.ntmps26
      go_wp2_with (first | (go_at_call 34; (with_reducible refine (within_is h1 _).mono ?_); rintro e w' ⟨rfl, rfl⟩) | (go_at_call 35; (with_reducible refine HC.out.mono ?_); rintro e w' ⟨rfl, rfl⟩))
      go_ret
      exact ⟨ret_bool (by simp), ext1 _ _⟩
    · have d2 : decide ((xs.length : Int) ≤ 420) = false := by simp; omega
      have d2n : decide (xs.length ≤ 420) = false := by simp; omega
      rw [d2n]
      go_enter Tryd.func26, Tryd.ntmps26
      go_wp2_with (first | (go_at_call 34; (with_reducible refine (within_is h1 _).mono ?_); rintro e w' ⟨rfl, rfl⟩))
      go_ret
      exact ⟨rfl, ext1 _ _⟩
set_option maxHeartbeats 1000000 in
theorem l26Fits_any (g : Nat) (A : Option Addr) (c : Nat) (xs : List Int) (w : World) (hx : Rd (Value.int .i64) w w.heap.size A xs) (hm : xs.length ≤ maxLen) (c1 : w.cell? ⟨g, 1, none⟩ = some (.slice A xs.length c)) :
    Calls Tryd.prog 12 #[.pointer (some ⟨g, 0, none⟩)] w fun e w' => e = .returned (.bool (nbB xs)) ∧ w = w' := by
  unfold maxLen at hm
  have HX := Lib.hid hx
  clear hx
  go_enter Tryd.func12, Tryd.ntmps12
  go_wp2_with fail
  go_loop [3] (fun t => ∃ k : Nat, k ≤ xs.length ∧ t = .int .i64 k ∧ Hid ((xs.take k).all modB = true)) (fun t => xs.length - (intOf t).toNat)
  case atStart => exact ⟨0, by omega, rfl, by simp [Hid]⟩
  case round =>
    obtain ⟨k, hk, rfl, HK⟩ := hrel
    by_cases hlt : k < xs.length
    · obtain ⟨b, off, rfl, hb, hc⟩ := HX.out (by omega)
      obtain ⟨x, hxk⟩ : ∃ x, xs[k]? = some x := ⟨_, List.getElem?_eq_getElem hlt⟩
      have cx := hc k x hxk
      have i0 : (0 : Int) ≤ (k : Int) := by omega
      have i1 : (k : Int) < (xs.length : Int) := by omega
      have HM := Lib.hid (fun W : World => l26Num_any x W)
      cases hmd : modB x
      · have HE : Hid (nbB xs = false) := by
          unfold Hid nbB
          rw [allN hxk hmd, Bool.and_false]
        rw [hmd] at HM
        clear hc hxk hmd
        go_wp2_with (go_at_call 23; (with_reducible refine (HM.out _).mono ?_); rintro e w' ⟨rfl, rfl⟩)
        go_ret
        exact ⟨ret_bool HE.out.symm, rfl⟩
      · have HE := Lib.hid (allT HK.out hxk hmd)
        rw [hmd] at HM
        clear hc hxk hmd
        go_wp2_with (go_at_call 23; (with_reducible refine (HM.out _).mono ?_); rintro e w' ⟨rfl, rfl⟩)
        go_round
        case rel => exact ⟨k + 1, by omega, by go_num, HE.out⟩
        case measure => simp [intOf]; omega
    · have HE : Hid (decide (xs.length ≤ 420) = nbB xs) := by
        have h := HK.out
        rw [List.take_of_length_le (by omega)] at h
        unfold Hid nbB
        rw [h, Bool.and_true]
      have i1 : ¬ (k : Int) < (xs.length : Int) := by omega
      go_wp2
      go_ret
      exact ⟨ret_bool (HE.out ▸ (by rw [Bool.eq_iff_iff]; simp; omega)), rfl⟩
theorem tmod_m {c g : Int} (hg : 0 < g) (h1 : -1000000000 ≤ c) (h2 : c ≤ 1000000000) : IntKind.i64.wrap (c.tmod g) = c.tmod g := IntWalk.i64_in _ (by have := tmod_bd1 hg h1 h2; omega)
theorem mulm {x y : Int} (h1 : -1000000000 ≤ x ∧ x ≤ 1000000000) (h2 : -1000000000 ≤ y ∧ y ≤ 1000000000) : -1000000000000000000 ≤ x * y ∧ x * y ≤ 1000000000000000000 := by
  have := mul_bd (x := x) (y := y) (M := 1000000000) (N := 1000000000) (by omega) h1.2 (by omega) h2.2 h1.1 h2.1
  omega
end Go.Proofs.YtaajdkgcfoppeaaDoor
