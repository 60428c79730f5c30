/- Exact law: the program's StepSizes returns what the reference's returns, for all arguments. No condition. -/
import Derived.Test.YtffocmhimkgfeaaStepSW
import Derived.Test.YtffocmhimkgfeaaStepIW
import Derived.Test.YtffocmhimkgfeaaFrame
namespace Go.Proofs.Ytffocmhimkgfeaa.fnExactStepSizes
open Go.ChangeShapes Go.WideShapes Go.ChangeAt Go.RowKit
open Go.ChangeMaps (open_string shut_string)

def stN (n : Int) : Int := if inR n 1 40 = true then (cntS n.toNat : Int) else 0
def stC (n : Int) : Int := if inR n 1 40 = true then 0 else 2
theorem iStepSizes_any (n : Int) (w : World) : Calls Try.prog 15 #[.int .i64 n] w fun e w' => e = .returned (.tuple #[.int .i64 (stN n), .int .i64 (stC n)]) ∧ Below w.heap.size w w' := by
  cases h : inR n 1 40
  · have e1 : stN n = 0 := by simp [stN, h]
    have e2 : stC n = 2 := by simp [stC, h]
    rw [e1, e2]
    clear e1 e2
    go_enter Try.func15, Try.ntmps15
    go_wp2_with (go_at_call 84; refine (within_any _ _ _ _).mono ?_; rintro e w' ⟨rfl, rfl⟩)
    go_ret2
    exact ⟨rfl, Below.refl _ _⟩
  · obtain ⟨h0, h1'⟩ := inR_true.1 h
    obtain ⟨m, rfl⟩ := Int.eq_ofNat_of_zero_le (show 0 ≤ n by omega)
    have h1 : 1 ≤ m := by omega
    have h2 : m ≤ 40 := by omega
    have e1 : stN m = (cntS m : Int) := by simp [stN, h]
    have e2 : stC m = 0 := by simp [stC, h]
    rw [e1, e2]
    have hg := iStep_good m w h1 h2
    rwa [cnt_same h1 h2] at hg
theorem sStepSizes_any (n : Int) (w : World) : Calls Try.prog 14 #[.int .i64 n] w fun e w' => e = .returned (.tuple #[.int .i64 (stN n), .int .i64 (stC n)]) ∧ Below w.heap.size w w' := by
  cases h : inR n 1 40
  · have e1 : stN n = 0 := by simp [stN, h]
    have e2 : stC n = 2 := by simp [stC, h]
    rw [e1, e2]
    clear e1 e2
    go_enter Try.func14, Try.ntmps14
    go_wp2_with (go_at_call 81; refine (l00In_any _ _ _ _).mono ?_; rintro e w' ⟨rfl, rfl⟩)
    go_ret2
    exact ⟨rfl, Below.refl _ _⟩
  · obtain ⟨h0, h1'⟩ := inR_true.1 h
    obtain ⟨m, rfl⟩ := Int.eq_ofNat_of_zero_le (show 0 ≤ n by omega)
    have h1 : 1 ≤ m := by omega
    have h2 : m ≤ 40 := by omega
    have e1 : stN m = (cntS m : Int) := by simp [stN, h]
    have e2 : stC m = 0 := by simp [stC, h]
    rw [e1, e2]
    have hg := sStep_good m w h1 h2
    rwa [(rfl : cntS m = cntS m)] at hg

theorem walk (n : Int) (w : World) (_ : (Lit.int .i64 n).wf = true) :
    Calls Try.prog 3 #[.int .i64 n] w fun e w' => e = .returned (.bool true) ∧ Below w.heap.size w w' := by
  have HS := Lib.hid (sStepSizes_any n)
  have HI := Lib.hid (iStepSizes_any n)
  generalize stN n = a at *
  generalize stC n = b at *
  go_enter Try.func3, Try.ntmps3
  go_wp2_with fail
  refine (HS.out _).mono ?_
  rintro e w1 ⟨rfl, hb1⟩
  go_wp2_with fail
  refine (HI.out _).mono ?_
  rintro e w2 ⟨rfl, hb2⟩
  go_wp2
  go_ret
  exact ⟨rfl, ext_trans hb1 hb2⟩

theorem own : ownKnob Try.prog.godebug = none := by kernel_rfl
theorem laidOut : laidOutB Try.prog = true := by kernel_rfl
set_option linter.unusedVariables false in
set_option maxRecDepth 100000 in
theorem lifted (os : Os) (started : os.Started) (H : Type) (enc : TypeId × Value → H) :
    ReturnsInHanded {} Try.checked os 3 .any (Rows.fnExactStepSizesSpec.pre6 enc Try.prog Try.f3 Rows.fnExactStepSizesRow.domain false) (Rows.fnExactStepSizesSpec.post enc Try.prog Try.f3 false true false false) := by
  refine returnsInHanded_of_change (C := Try.checked) own started (by kernel_rfl) Try.func3
    (ChangeSpec.witness6 (enc := enc) (C := Try.checked) false ⟨#[], #[.int .i64 0], []⟩ 8 (by kernel_rfl) (by kernel_rfl) (by kernel_rfl) (by kernel_rfl)) ?_
  intro W base args ds gs before hval0 hW hcnd _
  have hval : ∀ (j : Nat) t v, Try.f3.params[j]? = some t → args[j]? = some v → Value.okWide Try.prog W .any base t v := hval0
  have hW' := hW
  obtain ⟨p, q, hA0, hV, rfl, hfz, hnd⟩ := hW
  have hA : DataW.TrodAll enc Try.prog W 0 (fun _ => true) true Try.f3.params.toList args.toList ds p := hA0
  rw [Try.params3] at hA hval
  obtain ⟨v0, vs0, d0, ds0, p0, q0, hargs, rfl, rfl, h0, r0⟩ := trodAll_cons hA
  obtain ⟨rfl, rfl, rfl⟩ := trodAll_nil r0
  obtain rfl : args = #[v0] := by cases args; simp_all
  obtain ⟨rfl, rfl⟩ := trodVars_none hV
  have k0 := h0
  have lt0 : ∀ x ∈ p0, x.block < W.heap.size := by obtain ⟨m, hm⟩ := k0; exact DataW.trod_lt m _ _ _ hm
  obtain ⟨a0, rfl, rfl, rfl, w0⟩ := open_int Try.underlying2 (hval 0 2 v0 rfl rfl) h0
  clear hA0 hval0
  refine (walk a0 W w0).mono fun e W' ⟨he, bel⟩ => ?_
  subst he
  exact ⟨_, rfl, _, _, _, [], _, [], hW', trodAll_mk1 (shut_bool Try.underlying4 _), (trodAll_cons_mk (Below.trod laidOut (by kernel_rfl) (of_decide_eq_true (by kernel_rfl)) k0 bel lt0) trodAll_mk0), rfl, bel.frame _, fun h => by cases h⟩

theorem jPlace : (Rows.fnExactStepSizesRow.inPlace == Try.prog.inPlace 3) = true := by kernel_rfl
theorem jFollow : (Rows.fnExactStepSizesRow.unfollowed == Try.prog.unfollowed 3) = true := by kernel_rfl
theorem jRecurse : (Rows.fnExactStepSizesRow.recurses == Try.prog.recurses 3) = true := by kernel_rfl
theorem jNamed : (Rows.fnExactStepSizesRow.named == Try.prog.varsNamed 3) = true := by kernel_rfl
theorem joined : joinedFacts Try.prog 3 Try.f3 Rows.fnExactStepSizesSpec Rows.fnExactStepSizesRow = true :=
  joined_of (by kernel_rfl) (by kernel_rfl) (by kernel_rfl) (by kernel_rfl) (by kernel_rfl) jPlace jFollow jRecurse jNamed (by kernel_rfl) (by kernel_rfl) (by kernel_rfl) (by kernel_rfl) (by kernel_rfl) (by kernel_rfl) (by kernel_rfl) (by kernel_rfl) (by kernel_rfl) rfl rfl rfl rfl rfl rfl (by kernel_rfl) (by kernel_rfl) (by kernel_rfl)
theorem over : Rows.fnExactStepSizesRow.holds Try.pinned (OpenSpec.ofChange Rows.fnExactStepSizesSpec) :=
  OpenClaim.holds_of_wide 3 Try.f3 rfl rfl rfl rfl rfl rfl rfl ⟨rfl, rfl, rfl, rfl, rfl⟩ rfl rfl rfl rfl rfl (by kernel_rfl) Try.func3 joined
    (of_decide_eq_true (by kernel_rfl)) (by unfold Func.isWrapper; first | (rw [if_pos (by decide +kernel)]; kernel_rfl) | (rw [if_neg (by decide +kernel)]; exact ⟨rfl, rfl⟩))
    (fun os started H enc _ => lifted os started H enc)

theorem proved : Rows.FnExactStepSizesSaid := over
#print axioms proved
end Go.Proofs.Ytffocmhimkgfeaa.fnExactStepSizes
