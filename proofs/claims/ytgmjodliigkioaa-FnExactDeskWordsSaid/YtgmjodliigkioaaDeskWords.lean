/- Exact law: the program's DeskWords returns what the reference's returns. No condition. -/
import Derived.Test.YtgmjodliigkioaaDeskW
import Derived.Test.YtgmjodliigkioaaFrame
namespace Go.Proofs.Ytgmjodliigkioaa.fnExactDeskWords
open Go.ChangeShapes Go.WideShapes Go.ChangeAt Go.RowKit
open Go.ChangeMaps (open_string shut_string)

set_option maxHeartbeats 1000000 in
theorem walkG (xs : List ByteArray) (w : World) (hl : xs.length ≤ 1000)
    (HS : Hid (∀ W, Calls Try.prog 22 #[] W (RetStrs W xs))) (HI : Hid (∀ W, Calls Try.prog 23 #[] W (RetStrs W xs))) :
    Calls Try.prog 6 #[] w fun e w' => e = .returned (.bool true) ∧ Below w.heap.size w w' := by
  go_enter Try.func6, Try.ntmps6
  go_wp2_with fail
  refine (HS.out _).mono ?_
  rintro e w1 ⟨As, cs, rfl, hws, hb1⟩
  obtain ⟨hc1, hf1⟩ := bcellB hb1
  have hy1 := hb1.size
  (try simp at hy1)
  have E1 : Below w.heap.size w w1 := hb1
  go_wp2_with fail
  refine (HI.out _).mono ?_
  rintro e w2 ⟨Ag, cg, rfl, hwg, hb2⟩
  obtain ⟨hc2, hf2⟩ := bcellB hb2
  have hy2 := hb2.size
  (try simp at hy2)
  have E2 : Below w.heap.size w w2 := E1.trans (hb2.mono (by have := E1.size; omega))
  have Y2 : Below w1.heap.size w1 w2 := hb2
  go_wp2_with fail
  refine (eqStringS_any _ _ _ _ _ _ _ hwg.rd ((hws.rd.below Y2).more (by omega)) (by unfold maxLen; omega) (by unfold maxLen; omega)).mono ?_
  rintro e w3 ⟨rfl, hb3⟩
  obtain ⟨hc3, hf3⟩ := bcellB hb3
  have hy3 := hb3.size
  (try simp at hy3)
  have E3 : Below w.heap.size w w3 := E2.trans (hb3.mono (by have := E2.size; omega))
  have Y3 : Below w1.heap.size w1 w3 := Y2.trans (hb3.mono (by omega))
  have hwg2 := hwg.below hb3
  go_wp2_with fail
  refine (markStringS_any _ _ xs _ 1 _ hwg2 (by omega) (by omega) (by omega)).mono ?_
  rintro e w4 ⟨rfl, hwm, hb4, hsz4⟩
  obtain ⟨hc4, hf4⟩ := bcellB hb4
  have hy4 := hb4.size
  (try simp at hy4)
  have E4 : Below w.heap.size w w4 := E3.trans (hb4.mono (by have := E3.size; omega))
  have Y4 : Below w1.heap.size w1 w4 := Y3.trans (hb4.mono (by omega))
  go_wp2_with fail
  refine (heldStringS_any _ _ xs.length 1 _ hwm.rd (by omega) (by omega) (by omega)).mono ?_
  rintro e w5 ⟨rfl, hb5⟩
  obtain ⟨hc5, hf5⟩ := bcellB hb5
  have hy5 := hb5.size
  (try simp at hy5)
  have E5 : Below w.heap.size w w5 := E4.trans (hb5.mono (by have := E4.size; omega))
  have Y5 : Below w1.heap.size w1 w5 := Y4.trans (hb5.mono (by omega))
  have Z5 : Below w4.heap.size w4 w5 := hb5
  go_wp2_with fail
  refine (HI.out _).mono ?_
  rintro e w6 ⟨Ah, ch, rfl, hwh, hb6⟩
  obtain ⟨hc6, hf6⟩ := bcellB hb6
  have hy6 := hb6.size
  (try simp at hy6)
  have E6 : Below w.heap.size w w6 := E5.trans (hb6.mono (by have := E5.size; omega))
  have Y6 : Below w1.heap.size w1 w6 := Y5.trans (hb6.mono (by omega))
  have Z6 : Below w4.heap.size w4 w6 := Z5.trans (hb6.mono (by omega))
  go_wp2_with fail
  refine (eqStringS_any _ _ _ _ _ _ _ hwh.rd ((hws.rd.below Y6).more (by omega)) (by unfold maxLen; omega) (by unfold maxLen; omega)).mono ?_
  rintro e w7 ⟨rfl, hb7⟩
  obtain ⟨hc7, hf7⟩ := bcellB hb7
  have hy7 := hb7.size
  (try simp at hy7)
  have E7 : Below w.heap.size w w7 := E6.trans (hb7.mono (by have := E6.size; omega))
  have Y7 : Below w1.heap.size w1 w7 := Y6.trans (hb7.mono (by omega))
  have Z7 : Below w4.heap.size w4 w7 := Z6.trans (hb7.mono (by omega))
  go_wp2_with fail
  refine (heldStringS_any _ _ xs.length 1 _ ((hwm.rd.below Z7).more (by omega)) (by omega) (by omega) (by omega)).mono ?_
  rintro e w8 ⟨rfl, hb8⟩
  obtain ⟨hc8, hf8⟩ := bcellB hb8
  have hy8 := hb8.size
  (try simp at hy8)
  have E8 : Below w.heap.size w w8 := E7.trans (hb8.mono (by have := E7.size; omega))
  have Y8 : Below w1.heap.size w1 w8 := Y7.trans (hb8.mono (by omega))
  have Z8 : Below w4.heap.size w4 w8 := Z7.trans (hb8.mono (by omega))
  go_wp2
  go_ret
  exact ⟨rfl, E8⟩

theorem walk (w : World) : Calls Try.prog 6 #[] w fun e w' => e = .returned (.bool true) ∧ Below w.heap.size w w' :=
  walkG _ w (by decide) sDeskWords_any iDeskWords_any

theorem own : ownKnob Try.prog.godebug = none := by kernel_rfl
theorem laidOut : laidOutB Try.prog = true := by kernel_rfl
set_option linter.unusedVariables false in
set_option maxRecDepth 100000 in
theorem lifted (os : Os) (started : os.Started) (H : Type) (enc : TypeId × Value → H) :
    ReturnsInHanded {} Try.checked os 6 .any (Rows.fnExactDeskWordsSpec.pre6 enc Try.prog Try.f6 Rows.fnExactDeskWordsRow.domain false) (Rows.fnExactDeskWordsSpec.post enc Try.prog Try.f6 false true false false) := by
  refine returnsInHanded_of_change (C := Try.checked) own started (by kernel_rfl) Try.func6
    (ChangeSpec.witness6 (enc := enc) (C := Try.checked) false ⟨#[], #[], []⟩ 8 (by kernel_rfl) (by kernel_rfl) (by kernel_rfl) (by kernel_rfl)) ?_
  intro W base args ds gs before hval0 hW hcnd _
  have hval : ∀ (j : Nat) t v, Try.f6.params[j]? = some t → args[j]? = some v → Value.okWide Try.prog W .any base t v := hval0
  have hW' := hW
  obtain ⟨p, q, hA0, hV, rfl, hfz, hnd⟩ := hW
  have hA : DataW.TrodAll enc Try.prog W 0 (fun _ => true) true Try.f6.params.toList args.toList ds p := hA0
  rw [Try.params6] at hA hval
  obtain ⟨hargs, rfl, rfl⟩ := trodAll_nil hA
  obtain rfl : args = #[] := by cases args; simp_all
  obtain ⟨rfl, rfl⟩ := trodVars_none hV
  clear hA0 hval0
  refine (walk W).mono fun e W' ⟨he, bel⟩ => ?_
  subst he
  exact ⟨_, rfl, _, _, _, [], _, [], hW', trodAll_mk1 (shut_bool Try.underlying4 _), trodAll_mk0, rfl, bel.frame _, fun h => by cases h⟩

theorem over : Rows.fnExactDeskWordsRow.holds Try.pinned (OpenSpec.ofChange Rows.fnExactDeskWordsSpec) :=
  OpenClaim.holds_of_wide 6 Try.f6 rfl rfl rfl rfl rfl rfl rfl ⟨rfl, rfl, rfl, rfl, rfl⟩ rfl rfl rfl rfl rfl (by kernel_rfl) Try.func6 (by kernel_rfl)
    (of_decide_eq_true (by kernel_rfl)) (by unfold Func.isWrapper; first | (rw [if_pos (by decide +kernel)]; kernel_rfl) | (rw [if_neg (by decide +kernel)]; exact ⟨rfl, rfl⟩))
    (fun os started H enc _ => lifted os started H enc)

theorem proved : Rows.FnExactDeskWordsSaid := over
#print axioms proved
end Go.Proofs.Ytgmjodliigkioaa.fnExactDeskWords
