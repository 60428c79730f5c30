/- Exact law: the program's DivisorShare returns what the reference's returns, for all arguments. No condition. -/
import Derived.Test.YtbcmjifhnpjkoaaShareW
import Derived.Test.YtbcmjifhnpjkoaaFrame
namespace Go.Proofs.Ytbcmjifhnpjkoaa.fnExactDivisorShare
open Go.ChangeShapes Go.WideShapes Go.ChangeAt Go.RowKit
open Go.ChangeMaps (open_string shut_string)

set_option maxHeartbeats 1000000 in
theorem walkG (A : Option Addr) (c : Nat) (xs : List Int) (w : World) (hx : Rd (Value.int .i64) w w.heap.size A xs) (hm : xs.length ≤ maxLen) :
    Calls Try.prog 6 #[.slice A xs.length c] w fun e w' => e = .returned (.bool true) ∧ Below w.heap.size w w' := by
  unfold maxLen at hm
  by_cases hl : xs.length ≤ 1048576
  · go_enter Try.func6, Try.ntmps6
    go_wp2_with fail
    refine (toInt64S_any A c xs _ hx hl).mono ?_
    rintro e w1 ⟨B, d, rfl, hw1, hb1⟩
    go_wp2_with fail
    refine (sDivisorShare_any B d xs _ hw1.rd hl).mono ?_
    rintro e w2 ⟨rfl, hb2⟩
    have hb02 := ext_trans hb1 hb2
    have hx2 := fun o : Obj => (hx.below (ext_alloc hb02 o)).more (ext_alloc hb02 o).size
    have HX2 := Lib.hid hx2
    clear hx2
    go_wp2_with fail
    refine (toInt64S_any A c xs _ (HX2.out _) hl).mono ?_
    rintro e w3 ⟨C, f, rfl, hw3, hb3⟩
    obtain ⟨hc3, hf3⟩ := bcell hb3
    have hz3 : w2.heap.size < w3.heap.size := by have := hb3.size; simp at this; omega
    go_wp2_with fail
    refine (iDivisorShare_any C f xs _ hw3.rd trivial).mono ?_
    rintro e w4 ⟨rfl, hb4⟩
    obtain ⟨hc4, hf4⟩ := bcell hb4
    have hz4 : w2.heap.size < w4.heap.size := by have := hb4.size; omega
    go_wp2_with fail
    refine (eqFraction_any _ _ _).mono ?_
    rintro e w5 ⟨rfl, hb5⟩
    have hb05 : Below w.heap.size w w5 := ext_trans (ext_alloc (ext_trans (ext_trans (ext_alloc hb02 _) hb3) hb4) _) hb5
    have hx5 := (hx.below hb05).more hb05.size
    have hb45 : Below w4.heap.size w4 w5 := ext_trans (ext1 _ _) hb5
    go_wp2_with fail
    refine (toInt64S_any A c xs _ hx5 hl).mono ?_
    rintro e w6 ⟨D, g, rfl, hw6, hb6⟩
    go_wp2_with fail
    refine (eqInt64S_any C D f g xs xs _ (((hw3.below hb4).below hb45).below hb6).rd hw6.rd (by unfold maxLen; omega) (by unfold maxLen; omega)).mono ?_
    rintro e w7 ⟨rfl, hb7⟩
    go_wp2
    go_ret
    exact ⟨rfl, ext_trans (ext_trans hb05 hb6) hb7⟩
  · have h1 : (1048576 : Int) < xs.length := by omega
    go_enter Try.func6, Try.ntmps6
    go_wp2
    go_ret
    exact ⟨rfl, Below.refl _ _⟩

theorem walk (A : Option Addr) (l c : Nat) (z : List Int) (w : World) (hx : IsRow .i64 w A l c z) :
    Calls Try.prog 6 #[.slice A l c] w fun e w' => e = .returned (.bool true) ∧ Below w.heap.size w w' := by
  obtain ⟨h1, h2, h3, _⟩ := hx.rd
  have := walkG A c (z.take l) w h3 (by omega)
  rw [h1] at this
  exact this

theorem own : ownKnob Try.prog.godebug = none := by kernel_rfl
theorem laidOut : laidOutB Try.prog = true := by kernel_rfl
set_option linter.unusedVariables false in
set_option maxRecDepth 100000 in
theorem lifted (os : Os) (started : os.Started) (H : Type) (enc : TypeId × Value → H) :
    ReturnsInHanded {} Try.checked os 6 .any (Rows.fnExactDivisorShareSpec.pre6 enc Try.prog Try.f6 Rows.fnExactDivisorShareRow.domain false) (Rows.fnExactDivisorShareSpec.post enc Try.prog Try.f6 false true false false) := by
  refine returnsInHanded_of_change (C := Try.checked) own started (by kernel_rfl) Try.func6
    (ChangeSpec.witness6 (enc := enc) (C := Try.checked) false ⟨#[], #[.slice none 0 0], []⟩ 8 (by kernel_rfl) (by kernel_rfl) (by kernel_rfl) (by kernel_rfl)) ?_
  intro W base args ds gs before hval0 hW hcnd _
  have hval : ∀ (j : Nat) t v, Try.f6.params[j]? = some t → args[j]? = some v → Value.okWide Try.prog W .any base t v := hval0
  have hW' := hW
  obtain ⟨p, q, hA0, hV, rfl, hfz, hnd⟩ := hW
  have hA : DataW.TrodAll enc Try.prog W 0 (fun _ => true) true Try.f6.params.toList args.toList ds p := hA0
  rw [Try.params6] at hA hval
  obtain ⟨v0, vs0, d0, ds0, p0, q0, hargs, rfl, rfl, h0, r0⟩ := trodAll_cons hA
  obtain ⟨rfl, rfl, rfl⟩ := trodAll_nil r0
  obtain rfl : args = #[v0] := by cases args; simp_all
  obtain ⟨rfl, rfl⟩ := trodVars_none hV
  have k0 := h0
  have lt0 : ∀ x ∈ p0, x.block < W.heap.size := by obtain ⟨m, hm⟩ := k0; exact DataW.trod_lt m _ _ _ hm
  obtain ⟨A0, l0, c0, rfl⟩ := okWide_slice Try.underlying34 (hval 0 34 v0 rfl rfl)
  obtain ⟨z0, w0⟩ : ∃ zs, IsRow .i64 W A0 l0 c0 zs := isRow_arg Try.underlying34 Try.underlying2 (by kernel_rfl) h0
  clear hA0 hval0
  refine (walk A0 l0 c0 z0 W w0).mono fun e W' ⟨he, bel⟩ => ?_
  subst he
  exact ⟨_, rfl, _, _, _, [], _, [], hW', trodAll_mk1 (shut_bool Try.underlying4 _), (trodAll_cons_mk (Below.trod laidOut (by kernel_rfl) (of_decide_eq_true (by kernel_rfl)) k0 bel lt0) trodAll_mk0), rfl, bel.frame _, fun h => by cases h⟩

theorem over : Rows.fnExactDivisorShareRow.holds Try.pinned (OpenSpec.ofChange Rows.fnExactDivisorShareSpec) :=
  OpenClaim.holds_of_wide 6 Try.f6 rfl rfl rfl rfl rfl rfl rfl ⟨rfl, rfl, rfl, rfl, rfl⟩ rfl rfl rfl rfl rfl (by kernel_rfl) Try.func6 (by kernel_rfl)
    (of_decide_eq_true (by kernel_rfl)) (by unfold Func.isWrapper; first | (rw [if_pos (by decide +kernel)]; kernel_rfl) | (rw [if_neg (by decide +kernel)]; exact ⟨rfl, rfl⟩))
    (fun os started H enc _ => lifted os started H enc)

theorem proved : Rows.FnExactDivisorShareSaid := over
#print axioms proved
end Go.Proofs.Ytbcmjifhnpjkoaa.fnExactDivisorShare
