/- PeriodOf and the reference's walk with its code. No condition but those that each theorem names. -/
import Derived.Test.YtkimmahmbacjpaaPeriodW
namespace Go.Proofs.Ytkimmahmbacjpaa
open Go.RowKit Go.Sort Go.Maps Go.WideMaps

def pdR (s : Sd) : Option (List Sd × Nat) := if sdOk s = true then perOf s else none
def pdC (s : Sd) : Int := if sdOk s = true then (if (perOf s).isSome = true then 0 else 5) else 1
theorem pdR_facts {s : Sd} {L : List Sd} {i : Nat} (h : pdR s = some (L, i)) : sdOk s = true ∧ perOf s = some (L, i) ∧ pdC s = 0 ∧ i < L.length ∧ L.length ≤ 400 := by
  unfold pdR at h
  split at h
  · rename_i hs
    have := per_facts 400 [] s (L, i) h
    refine ⟨hs, h, ?_, by simpa using this⟩
    simp [pdC, hs, h]
  · cases h
theorem pdR_none {s : Sd} (h : pdR s = none) : pdC s ≠ 0 := by
  unfold pdR at h
  unfold pdC
  split
  · rename_i hs
    rw [if_pos hs] at h
    simp [h]
  · omega
set_option maxHeartbeats 1000000 in
theorem iPeriodOf_any (p d q : Int) (w : World) :
    Calls Try.prog 70 #[surdV p d q] w (RetPd w (pdR (p, d, q)) (.int .i64 (pdC (p, d, q)))) := by
  have HV := Lib.hid (fun W : World => ValidSurd_any p d q W)
  have HOK : Hid (sdOk (p, d, q) = surdB p d q) := rfl
  cases hs : surdB p d q
  · have e1 : pdR (p, d, q) = none := by rw [pdR, HOK.out, hs]; rfl
    have e2 : pdC (p, d, q) = 1 := by rw [pdC, HOK.out, hs]; rfl
    rw [e1, e2]
    clear e1 e2
    rw [hs] at HV
    clear hs HOK
    unfold surdV at *
    go_enter Try.func70, Try.ntmps70
    go_wp2_with fail
    refine (HV.out _).mono ?_
    rintro e w1 ⟨rfl, hb1⟩
    go_wp2
    go_ret3
    exact ⟨none, 0, none, 0, rfl, fun h => absurd h (by simp [hdR]), fun h => absurd h (by simp [cyR]), ⟨by simp [hdR], by simp [cyR], Nat.zero_le _, Nat.zero_le _⟩, ext_trans (ext1 _ _) hb1⟩
  · have e1 : pdR (p, d, q) = perOf (p, d, q) := by rw [pdR, HOK.out, hs]; rfl
    have e2 : pdC (p, d, q) = if (perOf (p, d, q)).isSome = true then 0 else 5 := by rw [pdC, HOK.out, hs]; rfl
    have HP := Lib.hid (fun W : World => periodOf_any p d q W hs)
    rw [e1, e2]
    clear e1 e2
    rw [hs] at HV
    clear hs HOK
    generalize perOf (p, d, q) = R at *
    obtain ⟨cd, hcd⟩ : ∃ cd, (if R.isSome = true then (0 : Int) else 5) = cd := ⟨_, rfl⟩
    rw [hcd]
    have HCD : Hid (∀ b, R.isSome = b → cd = if b = true then 0 else 5) := fun b hb => by rw [← hcd, hb]
    clear hcd
    unfold surdV at *
    go_enter Try.func70, Try.ntmps70
    go_wp2_with fail
    refine (HV.out _).mono ?_
    rintro e w1 ⟨rfl, hb1⟩
    obtain ⟨hc1, hf1⟩ := bcell hb1
    have hz1 : w.heap.size < w1.heap.size := by have := hb1.size; simp at this; omega
    have HB1 := Lib.hid (ext_trans (ext1 w (.cells #[.int .i64 p, .int .i64 d, .int .i64 q] 34)) hb1)
    go_wp2_with fail
    refine (HP.out _).mono ?_
    rintro e w2 ⟨A1, c1, A2, c2, rfl, g1, g2, hcp, hb2⟩
    have G1 := Lib.hid (g1.more HB1.out.size)
    have G2 := Lib.hid (g2.more HB1.out.size)
    have HB2 := Lib.hid (ext_trans HB1.out hb2)
    have HCP := Lib.hid hcp
    clear g1 g2 hb2 hb1 HB1 hc1 hf1 hcp
    cases hR : R.isSome
    · have hn : R = none := by cases R <;> simp at hR ⊢
      subst hn
      obtain rfl : cd = 5 := HCD.out false rfl
      clear HCD
      go_wp2
      go_ret3
      exact ⟨none, 0, none, 0, rfl, fun h => absurd h (by simp [hdR]), fun h => absurd h (by simp [cyR]), ⟨by simp [hdR], by simp [cyR], Nat.zero_le _, Nat.zero_le _⟩, HB2.out⟩
    · obtain rfl : cd = 0 := HCD.out true hR
      clear hR HCD
      go_wp2
      go_ret3
      exact ⟨A1, c1, A2, c2, rfl, G1.out, G2.out, HCP.out, HB2.out⟩
/-- What a call returns that walks along the surds of any surd, and a code. -/
def RetCo (w : World) (R : Option (List Sd × Nat)) (code : Int) (e : Ending) (w' : World) : Prop :=
  ∃ g, e = .returned (.tuple #[.pointer (some ⟨g, 0, none⟩), .int .i64 code]) ∧ Below w.heap.size w w' ∧ ∀ L i, R = some (L, i) → WkAt w.heap.size g L (i : Int) w'
set_option maxHeartbeats 1000000 in
theorem l08Code_any (p d q : Int) (w : World) :
    Calls Try.prog 79 #[surdV p d q] w (RetCo w (pdR (p, d, q)) (pdC (p, d, q))) := by
  have HV := Lib.hid (fun W : World => l07Ok_any p d q W)
  have HOK : Hid (sdOk (p, d, q) = surdB p d q) := rfl
  cases hs : surdB p d q
  · have e1 : pdR (p, d, q) = none := by rw [pdR, HOK.out, hs]; rfl
    have e2 : pdC (p, d, q) = 1 := by rw [pdC, HOK.out, hs]; rfl
    rw [e1, e2]
    clear e1 e2
    rw [hs] at HV
    clear hs HOK
    unfold surdV at *
    go_enter Try.func79, Try.ntmps79
    go_wp2_with fail
    refine (HV.out _).mono ?_
    rintro e w1 ⟨rfl, hb1⟩
    go_wp2
    go_ret2
    exact ⟨_, rfl, ext_alloc (ext_trans (ext1 _ _) hb1) _, fun L i h => by cases h⟩
  · have e1 : pdR (p, d, q) = perOf (p, d, q) := by rw [pdR, HOK.out, hs]; rfl
    have e2 : pdC (p, d, q) = if (perOf (p, d, q)).isSome = true then 0 else 5 := by rw [pdC, HOK.out, hs]; rfl
    have HP := Lib.hid (fun W : World => l08Walk_any p d q W hs)
    rw [e1, e2]
    clear e1 e2
    rw [hs] at HV
    clear hs HOK
    generalize perOf (p, d, q) = R at *
    obtain ⟨cd, hcd⟩ : ∃ cd, (if R.isSome = true then (0 : Int) else 5) = cd := ⟨_, rfl⟩
    rw [hcd]
    have HCD : Hid (∀ b, R.isSome = b → cd = if b = true then 0 else 5) := fun b hb => by rw [← hcd, hb]
    clear hcd
    unfold surdV at *
    go_enter Try.func79, Try.ntmps79
    go_wp2_with fail
    refine (HV.out _).mono ?_
    rintro e w1 ⟨rfl, hb1⟩
    obtain ⟨hc1, hf1⟩ := bcell hb1
    have hz1 : w.heap.size < w1.heap.size := by have := hb1.size; simp at this; omega
    have HB1 := Lib.hid (ext_trans (ext1 w (.cells #[.int .i64 p, .int .i64 d, .int .i64 q] 34)) hb1)
    go_wp2_with fail
    refine (HP.out _).mono ?_
    rintro e w2 ⟨g, rfl, hb2, hw⟩
    have HW : Hid (∀ L i, R = some (L, i) → WkAt w.heap.size g L (i : Int) w2) := fun L i h => (hw L i h).more HB1.out.size
    have HB2 := Lib.hid (ext_trans HB1.out hb2)
    clear hw hb2 hb1 HB1 hc1 hf1
    cases hR : R.isSome
    · obtain rfl : cd = 5 := HCD.out false hR
      clear hR HCD
      go_wp2
      go_ret2
      exact ⟨g, rfl, HB2.out, HW.out⟩
    · obtain rfl : cd = 0 := HCD.out true hR
      clear hR HCD
      go_wp2
      go_ret2
      exact ⟨g, rfl, HB2.out, HW.out⟩
end Go.Proofs.Ytkimmahmbacjpaa
