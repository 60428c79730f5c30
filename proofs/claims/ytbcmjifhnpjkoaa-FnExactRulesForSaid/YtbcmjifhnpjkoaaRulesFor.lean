/- Exact law: the program's RulesFor returns what the reference's returns, for all arguments. No condition. -/
import Derived.Test.YtbcmjifhnpjkoaaRulesW
import Derived.Test.YtbcmjifhnpjkoaaFrame
namespace Go.Proofs.Ytbcmjifhnpjkoaa.fnExactRulesFor
open Go.ChangeShapes Go.WideShapes Go.ChangeAt Go.RowKit
open Go.ChangeMaps (open_string shut_string)

set_option maxHeartbeats 1000000 in
theorem walkG (n d most : Int) (xs : List (Int × Int)) (code : Int) (w : World) (hl : xs.length ≤ 1000000000000000)
    (HS : Hid (∀ W, Calls Try.prog 47 #[fracV n d, .int .i64 most] W (RetRules W xs code))) (HI : Hid (∀ W, Calls Try.prog 48 #[fracV n d, .int .i64 most] W (RetRules W xs code))) :
    Calls Try.prog 11 #[fracV n d, .int .i64 most] w fun e w' => e = .returned (.bool true) ∧ Below w.heap.size w w' := by
  go_enter Try.func11, Try.ntmps11
  go_wp2_with fail
  refine (toFraction_any n d _).mono ?_
  rintro e w1 ⟨rfl, hb1⟩
  obtain ⟨hc1, hf1⟩ := bcellB hb1
  have hy1 := hb1.size
  (try simp at hy1)
  have hz1_0 : w.heap.size < w1.heap.size := by omega
  have E1 : Below w.heap.size w w1 := (ext_alloc (Below.refl _ _) _).trans (hb1.mono (by simp; done))
  go_wp2_with fail
  refine (HS.out _).mono ?_
  rintro e w2 ⟨As, cs, rfl, hws, hb2⟩
  obtain ⟨hc2, hf2⟩ := bcellB hb2
  have hy2 := hb2.size
  (try simp at hy2)
  have hz2_0 : w.heap.size < w2.heap.size := by omega
  have E2 : Below w.heap.size w w2 := E1.trans (hb2.mono (by have := E1.size; omega))
  go_wp2_with fail
  refine (toFraction_any n d _).mono ?_
  rintro e w3 ⟨rfl, hb3⟩
  obtain ⟨hc3, hf3⟩ := bcellB hb3
  have hy3 := hb3.size
  (try simp at hy3)
  have hz3_0 : w.heap.size < w3.heap.size := by omega
  have E3 : Below w.heap.size w w3 := E2.trans (hb3.mono (by have := E2.size; omega))
  have Y3 : Below w2.heap.size w2 w3 := hb3
  go_wp2_with fail
  refine (HI.out _).mono ?_
  rintro e w4 ⟨Ag, cg, rfl, hwg, hb4⟩
  obtain ⟨hc4, hf4⟩ := bcellB hb4
  have hy4 := hb4.size
  (try simp at hy4)
  have hz4_0 : w.heap.size < w4.heap.size := by omega
  have E4 : Below w.heap.size w w4 := E3.trans (hb4.mono (by have := E3.size; omega))
  have Y4 : Below w2.heap.size w2 w4 := Y3.trans (hb4.mono (by omega))
  go_wp2_with fail
  refine (eqRuleS_any _ _ _ _ xs xs _ hwg.rd ((hws.rd.below Y4).more (by omega)) (by unfold maxLen; omega) (by unfold maxLen; omega)).mono ?_
  rintro e w5 ⟨rfl, hb5⟩
  obtain ⟨hc5, hf5⟩ := bcellB hb5
  have hy5 := hb5.size
  (try simp at hy5)
  have hz5_0 : w.heap.size < w5.heap.size := by omega
  have E5 : Below w.heap.size w w5 := E4.trans (hb5.mono (by have := E4.size; omega))
  have Y5 : Below w2.heap.size w2 w5 := Y4.trans (hb5.mono (by omega))
  have hwg2 := hwg.below hb5
  go_wp2_with fail
  refine (markRuleS_any _ _ xs _ 1 _ hwg2 (by omega) (by omega) (by omega)).mono ?_
  rintro e w6 ⟨rfl, hwm, hb6, hsz6, _⟩
  obtain ⟨hc6, hf6⟩ := bcellB hb6
  have hy6 := hb6.size
  (try simp at hy6)
  have hz6_0 : w.heap.size < w6.heap.size := by omega
  have E6 : Below w.heap.size w w6 := E5.trans (hb6.mono (by have := E5.size; omega))
  have Y6 : Below w2.heap.size w2 w6 := Y5.trans (hb6.mono (by omega))
  go_wp2_with fail
  refine (heldRuleS_any _ _ xs.length 1 _ hwm.rd hl (by omega) (by omega)).mono ?_
  rintro e w' ⟨rfl, rfl⟩
  go_wp2_with fail
  refine (toFraction_any n d _).mono ?_
  rintro e w7 ⟨rfl, hb7⟩
  obtain ⟨hc7, hf7⟩ := bcellB hb7
  have hy7 := hb7.size
  (try simp at hy7)
  have hz7_0 : w.heap.size < w7.heap.size := by omega
  have E7 : Below w.heap.size w w7 := E6.trans (hb7.mono (by have := E6.size; omega))
  have Y7 : Below w2.heap.size w2 w7 := Y6.trans (hb7.mono (by omega))
  have Z7 : Below w6.heap.size w6 w7 := hb7
  go_wp2_with fail
  refine (HI.out _).mono ?_
  rintro e w8 ⟨Ah, ch, rfl, hwh, hb8⟩
  obtain ⟨hc8, hf8⟩ := bcellB hb8
  have hy8 := hb8.size
  (try simp at hy8)
  have hz8_0 : w.heap.size < w8.heap.size := by omega
  have E8 : Below w.heap.size w w8 := E7.trans (hb8.mono (by have := E7.size; omega))
  have Y8 : Below w2.heap.size w2 w8 := Y7.trans (hb8.mono (by omega))
  have Z8 : Below w6.heap.size w6 w8 := Z7.trans (hb8.mono (by omega))
  go_wp2_with fail
  refine (eqRuleS_any _ _ _ _ xs xs _ hwh.rd ((hws.rd.below Y8).more (by omega)) (by unfold maxLen; omega) (by unfold maxLen; omega)).mono ?_
  rintro e w9 ⟨rfl, hb9⟩
  obtain ⟨hc9, hf9⟩ := bcellB hb9
  have hy9 := hb9.size
  (try simp at hy9)
  have hz9_0 : w.heap.size < w9.heap.size := by omega
  have E9 : Below w.heap.size w w9 := E8.trans (hb9.mono (by have := E8.size; omega))
  have Y9 : Below w2.heap.size w2 w9 := Y8.trans (hb9.mono (by omega))
  have Z9 : Below w6.heap.size w6 w9 := Z8.trans (hb9.mono (by omega))
  go_wp2_with fail
  refine (heldRuleS_any _ _ xs.length 1 _ ((hwm.rd.below Z9).more (by omega)) hl (by omega) (by omega)).mono ?_
  rintro e w' ⟨rfl, rfl⟩
  go_wp2
  go_ret
  exact ⟨rfl, E9⟩

theorem walk (n d most : Int) (w : World) (_ : (Lit.int .i64 n).wf = true) (_ : (Lit.int .i64 d).wf = true) (_ : (Lit.int .i64 most).wf = true) :
    Calls Try.prog 11 #[.agg #[.int .i64 n, .int .i64 d], .int .i64 most] w fun e w' => e = .returned (.bool true) ∧ Below w.heap.size w w' :=
  walkG n d most _ _ w (ruX_length n d most) (sRulesFor_any n d most) (iRulesFor_any n d most)

theorem own : ownKnob Try.prog.godebug = none := by kernel_rfl
theorem laidOut : laidOutB Try.prog = true := by kernel_rfl
set_option linter.unusedVariables false in
set_option maxRecDepth 100000 in
theorem lifted (os : Os) (started : os.Started) (H : Type) (enc : TypeId × Value → H) :
    ReturnsInHanded {} Try.checked os 11 .any (Rows.fnExactRulesForSpec.pre6 enc Try.prog Try.f11 Rows.fnExactRulesForRow.domain false) (Rows.fnExactRulesForSpec.post enc Try.prog Try.f11 false true false false) := by
  refine returnsInHanded_of_change (C := Try.checked) own started (by kernel_rfl) Try.func11
    (ChangeSpec.witness6 (enc := enc) (C := Try.checked) false ⟨#[], #[.agg #[.int .i64 0, .int .i64 0], .int .i64 0], []⟩ 8 (by kernel_rfl) (by kernel_rfl) (by kernel_rfl) (by kernel_rfl)) ?_
  intro W base args ds gs before hval0 hW hcnd _
  have hval : ∀ (j : Nat) t v, Try.f11.params[j]? = some t → args[j]? = some v → Value.okWide Try.prog W .any base t v := hval0
  have hW' := hW
  obtain ⟨p, q, hA0, hV, rfl, hfz, hnd⟩ := hW
  have hA : DataW.TrodAll enc Try.prog W 0 (fun _ => true) true Try.f11.params.toList args.toList ds p := hA0
  rw [Try.params11] at hA hval
  obtain ⟨v0, vs0, d0, ds0, p0, q0, hargs, rfl, rfl, h0, r0⟩ := trodAll_cons hA
  obtain ⟨v1, vs1, d1, ds1, p1, q1, rfl, rfl, rfl, h1, r1⟩ := trodAll_cons r0
  obtain ⟨rfl, rfl, rfl⟩ := trodAll_nil r1
  obtain rfl : args = #[v0, v1] := by cases args; simp_all
  obtain ⟨rfl, rfl⟩ := trodVars_none hV
  have k0 := h0
  have lt0 : ∀ x ∈ p0, x.block < W.heap.size := by obtain ⟨m, hm⟩ := k0; exact DataW.trod_lt m _ _ _ hm
  obtain ⟨u0_0, u0_1, y0_0, y0_1, n0, rfl, _, _, g0_0, g0_1⟩ := Joins.open_agg2 Try.underlying25 (by kernel_rfl) (by kernel_rfl) (hval 0 25 v0 rfl rfl) h0
  obtain ⟨f0_0, ef0_0, _, wf0_0⟩ := DataW.trod_int Try.underlying2 g0_0
  simp only [List.cons.injEq, and_true] at ef0_0
  subst ef0_0
  obtain ⟨f0_1, ef0_1, _, wf0_1⟩ := DataW.trod_int Try.underlying2 g0_1
  simp only [List.cons.injEq, and_true] at ef0_1
  subst ef0_1
  have k1 := h1
  have lt1 : ∀ x ∈ p1, x.block < W.heap.size := by obtain ⟨m, hm⟩ := k1; exact DataW.trod_lt m _ _ _ hm
  obtain ⟨a1, rfl, rfl, rfl, w1⟩ := open_int Try.underlying2 (hval 1 2 v1 rfl rfl) h1
  clear hA0 hval0
  refine (walk f0_0 f0_1 a1 W wf0_0 wf0_1 w1).mono fun e W' ⟨he, bel⟩ => ?_
  subst he
  exact ⟨_, rfl, _, _, _, [], _, [], hW', trodAll_mk1 (shut_bool Try.underlying4 _), (trodAll_cons_mk (Below.trod laidOut (by kernel_rfl) (of_decide_eq_true (by kernel_rfl)) k0 bel lt0) (trodAll_cons_mk (Below.trod laidOut (by kernel_rfl) (of_decide_eq_true (by kernel_rfl)) k1 bel lt1) trodAll_mk0)), rfl, bel.frame _, fun h => by cases h⟩

theorem over : Rows.fnExactRulesForRow.holds Try.pinned (OpenSpec.ofChange Rows.fnExactRulesForSpec) :=
  OpenClaim.holds_of_wide 11 Try.f11 rfl rfl rfl rfl rfl rfl rfl ⟨rfl, rfl, rfl, rfl, rfl⟩ rfl rfl rfl rfl rfl (by kernel_rfl) Try.func11 (by kernel_rfl)
    (of_decide_eq_true (by kernel_rfl)) (by unfold Func.isWrapper; first | (rw [if_pos (by decide +kernel)]; kernel_rfl) | (rw [if_neg (by decide +kernel)]; exact ⟨rfl, rfl⟩))
    (fun os started H enc _ => lifted os started H enc)

theorem proved : Rows.FnExactRulesForSaid := over
#print axioms proved
end Go.Proofs.Ytbcmjifhnpjkoaa.fnExactRulesFor
