/- Exact law: the program's ScaleNotes returns what the reference's returns, for all arguments. No condition. -/
import Derived.Test.YtnpdpippnhikkaaScaleSW
import Derived.Test.YtnpdpippnhikkaaScaleIW
import Derived.Test.YtnpdpippnhikkaaFrame
namespace Go.Proofs.Ytnpdpippnhikkaa.fnExactScaleNotes
open Go.ChangeShapes Go.WideShapes Go.ChangeAt Go.RowKit
open Go.ChangeMaps (open_string shut_string)

def scX (n : Int) : List Int := if inR n 1 40 = true then srtI n.toNat else []
def scC (n : Int) : Int := if inR n 1 40 = true then 0 else 2

theorem iScaleNotes_any (n : Int) (w : World) : Calls Try.prog 53 #[.int .i64 n] w (RetInts w (scX n) (scC n)) := by
  cases h : inR n 1 40
  · have e1 : scX n = [] := by simp [scX, h]
    have e2 : scC n = 2 := by simp [scC, h]
    rw [e1, e2]
    clear e1 e2
    go_enter Try.func53, Try.ntmps53
    go_wp2_with (go_at_call 86; refine (within_any _ _ _ _).mono ?_; rintro e w' ⟨rfl, rfl⟩)
    go_ret2
    exact ⟨none, 0, rfl, fun h => absurd h (by simp), Below.refl _ _⟩
  · obtain ⟨h0, h1'⟩ := inR_true.1 h
    obtain ⟨m, rfl⟩ := Int.eq_ofNat_of_zero_le (show 0 ≤ n by omega)
    have h1 : 1 ≤ m := by omega
    have h2 : m ≤ 40 := by omega
    have e1 : scX m = srtI m := by simp [scX, h]
    have e2 : scC m = 0 := by simp [scC, h]
    rw [e1, e2]
    clear e1 e2
    go_enter Try.func53, Try.ntmps53
    go_wp2_with (first | (go_at_call 86; refine (within_any _ _ _ _).mono ?_; rintro e w' ⟨rfl, rfl⟩) | (go_at_call 125; refine (scaleNotes_any _ _ h1 h2).mono ?_; rintro e w1 ⟨A, c, rfl, hw, hb⟩))
    go_ret2
    exact ⟨A, c, rfl, hw, hb⟩
theorem sScaleNotes_any (n : Int) (w : World) : Calls Try.prog 52 #[.int .i64 n] w (RetInts w (scX n) (scC n)) := by
  cases h : inR n 1 40
  · have e1 : scX n = [] := by simp [scX, h]
    have e2 : scC n = 2 := by simp [scC, h]
    rw [e1, e2]
    clear e1 e2
    go_enter Try.func52, Try.ntmps52
    go_wp2_with (go_at_call 101; refine (l00In_any _ _ _ _).mono ?_; rintro e w' ⟨rfl, rfl⟩)
    go_ret2
    exact ⟨none, 0, rfl, fun h => absurd h (by simp), Below.refl _ _⟩
  · obtain ⟨h0, h1'⟩ := inR_true.1 h
    obtain ⟨m, rfl⟩ := Int.eq_ofNat_of_zero_le (show 0 ≤ n by omega)
    have h1 : 1 ≤ m := by omega
    have h2 : m ≤ 40 := by omega
    have e1 : scX m = srtI m := by simp [scX, h]
    have e2 : scC m = 0 := by simp [scC, h]
    rw [e1, e2]
    clear e1 e2
    go_enter Try.func52, Try.ntmps52
    go_wp2_with (first | (go_at_call 101; refine (l00In_any _ _ _ _).mono ?_; rintro e w' ⟨rfl, rfl⟩) | (go_at_call 124; refine (l25Notes_any _ _ h2).mono ?_; rintro e w1 ⟨A, c, rfl, hw, hb⟩))
    go_ret2
    exact ⟨A, c, rfl, hw, hb⟩

set_option maxHeartbeats 1000000 in
theorem walkG (n : Int) (xs : List Int) (code : Int) (w : World) (hl : xs.length ≤ 1000000000000000)
    (HS : Hid (∀ W, Calls Try.prog 52 #[.int .i64 n] W (RetInts W xs code))) (HI : Hid (∀ W, Calls Try.prog 53 #[.int .i64 n] W (RetInts W xs code))) :
    Calls Try.prog 10 #[.int .i64 n] w fun e w' => e = .returned (.bool true) ∧ Below w.heap.size w w' := by
  go_enter Try.func10, Try.ntmps10
  go_wp2_with fail
  refine (HS.out _).mono ?_
  rintro e w1 ⟨As, cs, rfl, hws, hb1⟩
  obtain ⟨hc1, hf1⟩ := bcellB hb1
  have hy1 := hb1.size
  (try simp at hy1)
  have E1 : Below w.heap.size w w1 := hb1
  go_wp2_with fail
  refine (HI.out _).mono ?_
  rintro e w2 ⟨Ag, cg, rfl, hwg, hb2⟩
  obtain ⟨hc2, hf2⟩ := bcellB hb2
  have hy2 := hb2.size
  (try simp at hy2)
  have E2 : Below w.heap.size w w2 := E1.trans (hb2.mono (by have := E1.size; omega))
  have Y2 : Below w1.heap.size w1 w2 := hb2
  go_wp2_with fail
  refine (eqInt64S_any _ _ _ _ _ _ _ hwg.rd ((hws.rd.below Y2).more (by omega)) (by unfold maxLen; omega) (by unfold maxLen; omega)).mono ?_
  rintro e w3 ⟨rfl, hb3⟩
  obtain ⟨hc3, hf3⟩ := bcellB hb3
  have hy3 := hb3.size
  (try simp at hy3)
  have E3 : Below w.heap.size w w3 := E2.trans (hb3.mono (by have := E2.size; omega))
  have Y3 : Below w1.heap.size w1 w3 := Y2.trans (hb3.mono (by omega))
  have hwg2 := hwg.below hb3
  go_wp2_with fail
  refine (markInt64S_any _ _ xs _ 1 _ hwg2 (by omega) (by omega) (by omega)).mono ?_
  rintro e w4 ⟨rfl, hwm, hb4, hsz4, _⟩
  obtain ⟨hc4, hf4⟩ := bcellB hb4
  have hy4 := hb4.size
  (try simp at hy4)
  have E4 : Below w.heap.size w w4 := E3.trans (hb4.mono (by have := E3.size; omega))
  have Y4 : Below w1.heap.size w1 w4 := Y3.trans (hb4.mono (by omega))
  go_wp2_with fail
  refine (heldInt64S_any _ _ xs.length 1 _ hwm.rd hl (by omega) (by omega)).mono ?_
  rintro e w' ⟨rfl, rfl⟩
  go_wp2_with fail
  refine (HI.out _).mono ?_
  rintro e w5 ⟨Ah, ch, rfl, hwh, hb5⟩
  obtain ⟨hc5, hf5⟩ := bcellB hb5
  have hy5 := hb5.size
  (try simp at hy5)
  have E5 : Below w.heap.size w w5 := E4.trans (hb5.mono (by have := E4.size; omega))
  have Y5 : Below w1.heap.size w1 w5 := Y4.trans (hb5.mono (by omega))
  have Z5 : Below w4.heap.size w4 w5 := hb5
  go_wp2_with fail
  refine (eqInt64S_any _ _ _ _ _ _ _ hwh.rd ((hws.rd.below Y5).more (by omega)) (by unfold maxLen; omega) (by unfold maxLen; omega)).mono ?_
  rintro e w6 ⟨rfl, hb6⟩
  obtain ⟨hc6, hf6⟩ := bcellB hb6
  have hy6 := hb6.size
  (try simp at hy6)
  have E6 : Below w.heap.size w w6 := E5.trans (hb6.mono (by have := E5.size; omega))
  have Y6 : Below w1.heap.size w1 w6 := Y5.trans (hb6.mono (by omega))
  have Z6 : Below w4.heap.size w4 w6 := Z5.trans (hb6.mono (by omega))
  go_wp2_with fail
  refine (heldInt64S_any _ _ xs.length 1 _ ((hwm.rd.below Z6).more (by omega)) hl (by omega) (by omega)).mono ?_
  rintro e w' ⟨rfl, rfl⟩
  go_wp2
  go_ret
  exact ⟨rfl, E6⟩

theorem walk (n : Int) (w : World) (_ : (Lit.int .i64 n).wf = true) :
    Calls Try.prog 10 #[.int .i64 n] w fun e w' => e = .returned (.bool true) ∧ Below w.heap.size w w' := by
  refine walkG n _ _ w ?_ (sScaleNotes_any n) (iScaleNotes_any n)
  unfold scX
  split
  · rename_i h
    have := inR_true.1 h
    rw [srtI_len (by omega)]
    omega
  · simp

theorem own : ownKnob Try.prog.godebug = none := by kernel_rfl
theorem laidOut : laidOutB Try.prog = true := by kernel_rfl
set_option linter.unusedVariables false in
set_option maxRecDepth 100000 in
theorem lifted (os : Os) (started : os.Started) (H : Type) (enc : TypeId × Value → H) :
    ReturnsInHanded {} Try.checked os 10 .any (Rows.fnExactScaleNotesSpec.pre6 enc Try.prog Try.f10 Rows.fnExactScaleNotesRow.domain false) (Rows.fnExactScaleNotesSpec.post enc Try.prog Try.f10 false true false false) := by
  refine returnsInHanded_of_change (C := Try.checked) own started (by kernel_rfl) Try.func10
    (ChangeSpec.witness6 (enc := enc) (C := Try.checked) false ⟨#[], #[.int .i64 0], []⟩ 8 (by kernel_rfl) (by kernel_rfl) (by kernel_rfl) (by kernel_rfl)) ?_
  intro W base args ds gs before hval0 hW hcnd _
  have hval : ∀ (j : Nat) t v, Try.f10.params[j]? = some t → args[j]? = some v → Value.okWide Try.prog W .any base t v := hval0
  have hW' := hW
  obtain ⟨p, q, hA0, hV, rfl, hfz, hnd⟩ := hW
  have hA : DataW.TrodAll enc Try.prog W 0 (fun _ => true) true Try.f10.params.toList args.toList ds p := hA0
  rw [Try.params10] at hA hval
  obtain ⟨v0, vs0, d0, ds0, p0, q0, hargs, rfl, rfl, h0, r0⟩ := trodAll_cons hA
  obtain ⟨rfl, rfl, rfl⟩ := trodAll_nil r0
  obtain rfl : args = #[v0] := by cases args; simp_all
  obtain ⟨rfl, rfl⟩ := trodVars_none hV
  have k0 := h0
  have lt0 : ∀ x ∈ p0, x.block < W.heap.size := by obtain ⟨m, hm⟩ := k0; exact DataW.trod_lt m _ _ _ hm
  obtain ⟨a0, rfl, rfl, rfl, w0⟩ := open_int Try.underlying2 (hval 0 2 v0 rfl rfl) h0
  clear hA0 hval0
  refine (walk a0 W w0).mono fun e W' ⟨he, bel⟩ => ?_
  subst he
  exact ⟨_, rfl, _, _, _, [], _, [], hW', trodAll_mk1 (shut_bool Try.underlying4 _), (trodAll_cons_mk (Below.trod laidOut (by kernel_rfl) (of_decide_eq_true (by kernel_rfl)) k0 bel lt0) trodAll_mk0), rfl, bel.frame _, fun h => by cases h⟩

theorem over : Rows.fnExactScaleNotesRow.holds Try.pinned (OpenSpec.ofChange Rows.fnExactScaleNotesSpec) :=
  OpenClaim.holds_of_wide 10 Try.f10 rfl rfl rfl rfl rfl rfl rfl ⟨rfl, rfl, rfl, rfl, rfl⟩ rfl rfl rfl rfl rfl (by kernel_rfl) Try.func10 (by kernel_rfl)
    (of_decide_eq_true (by kernel_rfl)) (by unfold Func.isWrapper; first | (rw [if_pos (by decide +kernel)]; kernel_rfl) | (rw [if_neg (by decide +kernel)]; exact ⟨rfl, rfl⟩))
    (fun os started H enc _ => lifted os started H enc)

theorem proved : Rows.FnExactScaleNotesSaid := over
#print axioms proved
end Go.Proofs.Ytnpdpippnhikkaa.fnExactScaleNotes
