/- Exact law: the program's DivisorRule returns what the reference's returns, for all arguments. No condition. -/
import Derived.Test.YtgmjodliigkioaaDivW
import Derived.Test.YtgmjodliigkioaaFrame
namespace Go.Proofs.Ytgmjodliigkioaa.fnExactDivisorRule
open Go.ChangeShapes Go.WideShapes Go.ChangeAt Go.RowKit
open Go.ChangeMaps (open_string shut_string)

set_option maxHeartbeats 1000000 in
theorem walkG (A : Option Addr) (c : Nat) (xs : List Int) (y : Int) (w : World) (hx : Rd (Value.int .i64) w w.heap.size A xs) (hm : xs.length ≤ maxLen) :
    Calls Try.prog 10 #[.slice A xs.length c, .int .i64 y] w fun e w' => e = .returned (.bool true) ∧ Below w.heap.size w w' := by
  unfold maxLen at hm
  by_cases hl : xs.length ≤ 1048576
  · go_enter Try.func10, Try.ntmps10
    go_wp2_with fail
    refine (toInt64S_any A c xs _ hx hl).mono ?_
    rintro e w1 ⟨B, d, rfl, hw1, hb1⟩
    go_wp2_with fail
    refine (sDivisorRule_any B d xs y _ hw1.rd hl).mono ?_
    rintro e w2 ⟨rfl, hb2⟩
    have hx2 := (hx.below (ext_trans hb1 hb2)).more (ext_trans hb1 hb2).size
    go_wp2_with fail
    refine (toInt64S_any A c xs _ hx2 hl).mono ?_
    rintro e w3 ⟨C, f, rfl, hw3, hb3⟩
    go_wp2_with fail
    refine (iDivisorRule_any C f xs y _ hw3.rd).mono ?_
    rintro e w4 ⟨rfl, hb4⟩
    have hx4 := (hx2.below (ext_trans hb3 hb4)).more (ext_trans hb3 hb4).size
    go_wp2_with fail
    refine (toInt64S_any A c xs _ hx4 hl).mono ?_
    rintro e w5 ⟨D, g, rfl, hw5, hb5⟩
    go_wp2_with fail
    refine (eqInt64S_any C D f g xs xs _ ((hw3.below hb4).below hb5).rd hw5.rd (by unfold maxLen; omega) (by unfold maxLen; omega)).mono ?_
    rintro e w6 ⟨rfl, hb6⟩
    go_wp2
    go_ret
    exact ⟨rfl, ext_trans (ext_trans (ext_trans (ext_trans (ext_trans hb1 hb2) hb3) hb4) hb5) hb6⟩
  · have h1 : (1048576 : Int) < xs.length := by omega
    go_enter Try.func10, Try.ntmps10
    go_wp2
    go_ret
    exact ⟨rfl, Below.refl _ _⟩

theorem walk (A : Option Addr) (l c : Nat) (z : List Int) (y : Int) (w : World) (hx : IsRow .i64 w A l c z) (_ : (Lit.int .i64 y).wf = true) :
    Calls Try.prog 10 #[.slice A l c, .int .i64 y] w fun e w' => e = .returned (.bool true) ∧ Below w.heap.size w w' := by
  obtain ⟨h1, h2, h3, _⟩ := hx.rd
  have := walkG A c (z.take l) y w h3 (by omega)
  rw [h1] at this
  exact this

theorem own : ownKnob Try.prog.godebug = none := by kernel_rfl
theorem laidOut : laidOutB Try.prog = true := by kernel_rfl
set_option linter.unusedVariables false in
set_option maxRecDepth 100000 in
theorem lifted (os : Os) (started : os.Started) (H : Type) (enc : TypeId × Value → H) :
    ReturnsInHanded {} Try.checked os 10 .any (Rows.fnExactDivisorRuleSpec.pre6 enc Try.prog Try.f10 Rows.fnExactDivisorRuleRow.domain false) (Rows.fnExactDivisorRuleSpec.post enc Try.prog Try.f10 false true false false) := by
  refine returnsInHanded_of_change (C := Try.checked) own started (by kernel_rfl) Try.func10
    (ChangeSpec.witness6 (enc := enc) (C := Try.checked) false ⟨#[], #[.slice none 0 0, .int .i64 0], []⟩ 8 (by kernel_rfl) (by kernel_rfl) (by kernel_rfl) (by kernel_rfl)) ?_
  intro W base args ds gs before hval0 hW hcnd _
  have hval : ∀ (j : Nat) t v, Try.f10.params[j]? = some t → args[j]? = some v → Value.okWide Try.prog W .any base t v := hval0
  have hW' := hW
  obtain ⟨p, q, hA0, hV, rfl, hfz, hnd⟩ := hW
  have hA : DataW.TrodAll enc Try.prog W 0 (fun _ => true) true Try.f10.params.toList args.toList ds p := hA0
  rw [Try.params10] at hA hval
  obtain ⟨v0, vs0, d0, ds0, p0, q0, hargs, rfl, rfl, h0, r0⟩ := trodAll_cons hA
  obtain ⟨v1, vs1, d1, ds1, p1, q1, rfl, rfl, rfl, h1, r1⟩ := trodAll_cons r0
  obtain ⟨rfl, rfl, rfl⟩ := trodAll_nil r1
  obtain rfl : args = #[v0, v1] := by cases args; simp_all
  obtain ⟨rfl, rfl⟩ := trodVars_none hV
  have k0 := h0
  have lt0 : ∀ x ∈ p0, x.block < W.heap.size := by obtain ⟨m, hm⟩ := k0; exact DataW.trod_lt m _ _ _ hm
  obtain ⟨A0, l0, c0, rfl⟩ := okWide_slice Try.underlying39 (hval 0 39 v0 rfl rfl)
  obtain ⟨z0, w0⟩ : ∃ zs, IsRow .i64 W A0 l0 c0 zs := isRow_arg Try.underlying39 Try.underlying2 (by kernel_rfl) h0
  have k1 := h1
  have lt1 : ∀ x ∈ p1, x.block < W.heap.size := by obtain ⟨m, hm⟩ := k1; exact DataW.trod_lt m _ _ _ hm
  obtain ⟨a1, rfl, rfl, rfl, w1⟩ := open_int Try.underlying2 (hval 1 2 v1 rfl rfl) h1
  clear hA0 hval0
  refine (walk A0 l0 c0 z0 a1 W w0 w1).mono fun e W' ⟨he, bel⟩ => ?_
  subst he
  exact ⟨_, rfl, _, _, _, [], _, [], hW', trodAll_mk1 (shut_bool Try.underlying4 _), (trodAll_cons_mk (Below.trod laidOut (by kernel_rfl) (of_decide_eq_true (by kernel_rfl)) k0 bel lt0) (trodAll_cons_mk (Below.trod laidOut (by kernel_rfl) (of_decide_eq_true (by kernel_rfl)) k1 bel lt1) trodAll_mk0)), rfl, bel.frame _, fun h => by cases h⟩

theorem over : Rows.fnExactDivisorRuleRow.holds Try.pinned (OpenSpec.ofChange Rows.fnExactDivisorRuleSpec) :=
  OpenClaim.holds_of_wide 10 Try.f10 rfl rfl rfl rfl rfl rfl rfl ⟨rfl, rfl, rfl, rfl, rfl⟩ rfl rfl rfl rfl rfl (by kernel_rfl) Try.func10 (by kernel_rfl)
    (of_decide_eq_true (by kernel_rfl)) (by unfold Func.isWrapper; first | (rw [if_pos (by decide +kernel)]; kernel_rfl) | (rw [if_neg (by decide +kernel)]; exact ⟨rfl, rfl⟩))
    (fun os started H enc _ => lifted os started H enc)

theorem proved : Rows.FnExactDivisorRuleSaid := over
#print axioms proved
end Go.Proofs.Ytgmjodliigkioaa.fnExactDivisorRule
