/- Exact law: the program's YearsToDrift returns what the reference's returns, for all arguments. No condition. -/
import Derived.Test.YtgmjodliigkioaaDriftW
import Derived.Test.YtgmjodliigkioaaFrame
namespace Go.Proofs.Ytgmjodliigkioaa.fnExactYearsToDrift
open Go.ChangeShapes Go.WideShapes Go.ChangeAt Go.RowKit Go.Sort
open Go.ChangeMaps (open_string shut_string)

set_option maxHeartbeats 1000000 in
theorem walk (l c s n d : Int) (w : World) (_ : (Lit.int .i64 l).wf = true) (_ : (Lit.int .i64 c).wf = true) (_ : (Lit.int .i64 s).wf = true) (_ : (Lit.int .i64 n).wf = true) (_ : (Lit.int .i64 d).wf = true) :
    Calls Try.prog 14 #[ruleV l c s, fracV n d] w fun e w' => e = .returned (.bool true) ∧ Below w.heap.size w w' := by
  go_enter Try.func14, Try.ntmps14
  go_wp2
  have hb0 : Below w.heap.size w ((w.alloc (.cells #[.int .i64 l, .int .i64 c, .int .i64 s] 26)).alloc (.cells #[.int .i64 n, .int .i64 d] 57)) := ext_alloc (ext_alloc (Below.refl _ _) _) _
  have q0 := cell_two_fst w #[.int .i64 l, .int .i64 c, .int .i64 s] #[.int .i64 n, .int .i64 d] 26 57
  have q1 := cell_two_snd w #[.int .i64 l, .int .i64 c, .int .i64 s] #[.int .i64 n, .int .i64 d] 26 57
  have hz0 : w.heap.size + 1 < ((w.alloc (.cells #[.int .i64 l, .int .i64 c, .int .i64 s] 26)).alloc (.cells #[.int .i64 n, .int .i64 d] 57)).heap.size := by simp
  generalize (w.alloc (.cells #[.int .i64 l, .int .i64 c, .int .i64 s] 26)).alloc (.cells #[.int .i64 n, .int .i64 d] 57) = W at *
  have k0 : ∀ x os, (grow (redrawn W x) os).cell? ⟨w.heap.size, 0, none⟩ = some (.int .i64 l) := cell_regrown (q0 0)
  have k1 : ∀ x os, (grow (redrawn W x) os).cell? ⟨w.heap.size, 1, none⟩ = some (.int .i64 c) := cell_regrown (q0 1)
  have k2 : ∀ x os, (grow (redrawn W x) os).cell? ⟨w.heap.size, 2, none⟩ = some (.int .i64 s) := cell_regrown (q0 2)
  have k3 : ∀ x os, (grow (redrawn W x) os).cell? ⟨w.heap.size + 1, 0, none⟩ = some (.int .i64 n) := cell_regrown (q1 0)
  have k4 : ∀ x os, (grow (redrawn W x) os).cell? ⟨w.heap.size + 1, 1, none⟩ = some (.int .i64 d) := cell_regrown (q1 1)
  have Q0 := Lib.hid q0
  have Q1 := Lib.hid q1
  clear q0 q1
  refine wp_region_quiet_below (by kernel_rfl) (by kernel_rfl) ?_
  repeat (first | go_big_quiet_step ((first | (with_reducible exact Calls.regrown_of (toLeapRule_any l c s _)) | (with_reducible exact Calls.regrown_of (toFraction_any n d _)) | (with_reducible exact Calls.regrown_of (sYears_any l c s n d _)))) | quiet_step ((first | (with_reducible exact Calls.regrown_of (toLeapRule_any l c s _)) | (with_reducible exact Calls.regrown_of (toFraction_any n d _)) | (with_reducible exact Calls.regrown_of (sYears_any l c s n d _)))))
  refine wpQuiet_nil ?_
  intro _ hw'
  obtain ⟨⟨dq, oq⟩, hw''⟩ := hw'
  subst hw''
  obtain ⟨w1, hW1⟩ : ∃ Wq, Wq = grow (redrawn W dq) oq := ⟨_, rfl⟩
  have hb1 : Below W.heap.size W w1 := by rw [hW1]; exact below_regrown _ _ _
  rw [← hW1]
  clear hW1
  obtain ⟨hc1, hf1⟩ := bcell hb1
  have hy1 := hb1.size
  have hz1_0 : w.heap.size < w1.heap.size := by omega
  clear k0 k1 k2 k3 k4
  have hW1 : w.heap.size + 1 < w1.heap.size := by omega
  have k0 : ∀ x os, (grow (redrawn w1 x) os).cell? ⟨w.heap.size, 0, none⟩ = some (.int .i64 l) := cell_regrown ((hc1 _ _ (by omega)).trans (Q0.out 0))
  have k1 : ∀ x os, (grow (redrawn w1 x) os).cell? ⟨w.heap.size, 1, none⟩ = some (.int .i64 c) := cell_regrown ((hc1 _ _ (by omega)).trans (Q0.out 1))
  have k2 : ∀ x os, (grow (redrawn w1 x) os).cell? ⟨w.heap.size, 2, none⟩ = some (.int .i64 s) := cell_regrown ((hc1 _ _ (by omega)).trans (Q0.out 2))
  have k3 : ∀ x os, (grow (redrawn w1 x) os).cell? ⟨w.heap.size + 1, 0, none⟩ = some (.int .i64 n) := cell_regrown ((hc1 _ _ (by omega)).trans (Q1.out 0))
  have k4 : ∀ x os, (grow (redrawn w1 x) os).cell? ⟨w.heap.size + 1, 1, none⟩ = some (.int .i64 d) := cell_regrown ((hc1 _ _ (by omega)).trans (Q1.out 1))
  clear hc1 hf1
  go_wp2
  refine wp_region_quiet_below (by kernel_rfl) (by kernel_rfl) ?_
  repeat (first | go_big_quiet_step ((first | (with_reducible exact Calls.regrown_of (toLeapRule_any l c s _)) | (with_reducible exact Calls.regrown_of (toFraction_any n d _)) | (with_reducible exact Calls.regrown_of (iYears_any l c s n d _)))) | quiet_step ((first | (with_reducible exact Calls.regrown_of (toLeapRule_any l c s _)) | (with_reducible exact Calls.regrown_of (toFraction_any n d _)) | (with_reducible exact Calls.regrown_of (iYears_any l c s n d _)))))
  refine wpQuiet_nil ?_
  intro _ hw'
  obtain ⟨⟨dq, oq⟩, hw''⟩ := hw'
  subst hw''
  obtain ⟨w2, hW2⟩ : ∃ Wq, Wq = grow (redrawn w1 dq) oq := ⟨_, rfl⟩
  have hb2 : Below w1.heap.size w1 w2 := by rw [hW2]; exact below_regrown _ _ _
  rw [← hW2]
  clear hW2
  obtain ⟨hc2, hf2⟩ := bcell hb2
  have hy2 := hb2.size
  have hz2_0 : w.heap.size < w2.heap.size := by omega
  go_wp2
  go_ret
  exact ⟨rfl, ext_trans (ext_trans hb0 hb1) hb2⟩

theorem own : ownKnob Try.prog.godebug = none := by kernel_rfl
theorem laidOut : laidOutB Try.prog = true := by kernel_rfl
set_option linter.unusedVariables false in
set_option maxRecDepth 100000 in
theorem lifted (os : Os) (started : os.Started) (H : Type) (enc : TypeId × Value → H) :
    ReturnsInHanded {} Try.checked os 14 .any (Rows.fnExactYearsToDriftSpec.pre6 enc Try.prog Try.f14 Rows.fnExactYearsToDriftRow.domain false) (Rows.fnExactYearsToDriftSpec.post enc Try.prog Try.f14 false true false false) := by
  refine returnsInHanded_of_change (C := Try.checked) own started (by kernel_rfl) Try.func14
    (ChangeSpec.witness6 (enc := enc) (C := Try.checked) false ⟨#[], #[.agg #[.int .i64 0, .int .i64 0, .int .i64 0], .agg #[.int .i64 0, .int .i64 0]], []⟩ 8 (by kernel_rfl) (by kernel_rfl) (by kernel_rfl) (by kernel_rfl)) ?_
  intro W base args ds gs before hval0 hW hcnd _
  have hval : ∀ (j : Nat) t v, Try.f14.params[j]? = some t → args[j]? = some v → Value.okWide Try.prog W .any base t v := hval0
  have hW' := hW
  obtain ⟨p, q, hA0, hV, rfl, hfz, hnd⟩ := hW
  have hA : DataW.TrodAll enc Try.prog W 0 (fun _ => true) true Try.f14.params.toList args.toList ds p := hA0
  rw [Try.params14] at hA hval
  obtain ⟨v0, vs0, d0, ds0, p0, q0, hargs, rfl, rfl, h0, r0⟩ := trodAll_cons hA
  obtain ⟨v1, vs1, d1, ds1, p1, q1, rfl, rfl, rfl, h1, r1⟩ := trodAll_cons r0
  obtain ⟨rfl, rfl, rfl⟩ := trodAll_nil r1
  obtain rfl : args = #[v0, v1] := by cases args; simp_all
  obtain ⟨rfl, rfl⟩ := trodVars_none hV
  have k0 := h0
  have lt0 : ∀ x ∈ p0, x.block < W.heap.size := by obtain ⟨m, hm⟩ := k0; exact DataW.trod_lt m _ _ _ hm
  obtain ⟨u0_0, u0_1, u0_2, y0_0, y0_1, y0_2, n0, rfl, _, _, g0_0, g0_1, g0_2⟩ := Joins.open_agg3 Try.underlying26 (by kernel_rfl) (by kernel_rfl) (hval 0 26 v0 rfl rfl) h0
  obtain ⟨f0_0, ef0_0, _, wf0_0⟩ := DataW.trod_int Try.underlying2 g0_0
  simp only [List.cons.injEq, and_true] at ef0_0
  subst ef0_0
  obtain ⟨f0_1, ef0_1, _, wf0_1⟩ := DataW.trod_int Try.underlying2 g0_1
  simp only [List.cons.injEq, and_true] at ef0_1
  subst ef0_1
  obtain ⟨f0_2, ef0_2, _, wf0_2⟩ := DataW.trod_int Try.underlying2 g0_2
  simp only [List.cons.injEq, and_true] at ef0_2
  subst ef0_2
  have k1 := h1
  have lt1 : ∀ x ∈ p1, x.block < W.heap.size := by obtain ⟨m, hm⟩ := k1; exact DataW.trod_lt m _ _ _ hm
  obtain ⟨u1_0, u1_1, y1_0, y1_1, n1, rfl, _, _, g1_0, g1_1⟩ := Joins.open_agg2 Try.underlying57 (by kernel_rfl) (by kernel_rfl) (hval 1 57 v1 rfl rfl) h1
  obtain ⟨f1_0, ef1_0, _, wf1_0⟩ := DataW.trod_int Try.underlying2 g1_0
  simp only [List.cons.injEq, and_true] at ef1_0
  subst ef1_0
  obtain ⟨f1_1, ef1_1, _, wf1_1⟩ := DataW.trod_int Try.underlying2 g1_1
  simp only [List.cons.injEq, and_true] at ef1_1
  subst ef1_1
  clear hA0 hval0
  refine (walk f0_0 f0_1 f0_2 f1_0 f1_1 W wf0_0 wf0_1 wf0_2 wf1_0 wf1_1).mono fun e W' ⟨he, bel⟩ => ?_
  subst he
  exact ⟨_, rfl, _, _, _, [], _, [], hW', trodAll_mk1 (shut_bool Try.underlying4 _), (trodAll_cons_mk (Below.trod laidOut (by kernel_rfl) (of_decide_eq_true (by kernel_rfl)) k0 bel lt0) (trodAll_cons_mk (Below.trod laidOut (by kernel_rfl) (of_decide_eq_true (by kernel_rfl)) k1 bel lt1) trodAll_mk0)), rfl, bel.frame _, fun h => by cases h⟩

theorem over : Rows.fnExactYearsToDriftRow.holds Try.pinned (OpenSpec.ofChange Rows.fnExactYearsToDriftSpec) :=
  OpenClaim.holds_of_wide 14 Try.f14 rfl rfl rfl rfl rfl rfl rfl ⟨rfl, rfl, rfl, rfl, rfl⟩ rfl rfl rfl rfl rfl (by kernel_rfl) Try.func14 (by kernel_rfl)
    (of_decide_eq_true (by kernel_rfl)) (by unfold Func.isWrapper; first | (rw [if_pos (by decide +kernel)]; kernel_rfl) | (rw [if_neg (by decide +kernel)]; exact ⟨rfl, rfl⟩))
    (fun os started H enc _ => lifted os started H enc)

theorem proved : Rows.FnExactYearsToDriftSaid := over
#print axioms proved
end Go.Proofs.Ytgmjodliigkioaa.fnExactYearsToDrift
