/- Law: the program's UnpackNotes returns what the reference's returns, for all arguments. No condition. -/
import Derived.Test.YtkimmahmbacjpaaFrame
import Derived.Test.YtkimmahmbacjpaaUnpLW
import Derived.Test.YtkimmahmbacjpaaMarkNtW
import Derived.Test.YtkimmahmbacjpaaNlB
namespace Go.Proofs.Ytkimmahmbacjpaa.fnExactUnpackNotes
open Go.ChangeShapes Go.WideShapes Go.ChangeAt Go.RowKit Go.Sort
open Go.ChangeMaps (open_string shut_string)

set_option maxRecDepth 100000 in
set_option maxHeartbeats 2000000 in
theorem walkG (s : ByteArray) (w : World) (hs1 : (s.size : Int) ≤ 1048576) :
    Calls Try.prog 3 #[.string s] w fun e w' => e = .returned (.bool true) ∧ Below w.heap.size w w' := by
  have hs2 : decide (1048576 < (s.size : Int)) = false := decide_eq_false (by omega)
  obtain ⟨hy1, hy2⟩ := unX_bd s
  have hposy : posN (unX s) (unX s).length ≤ 100000000 := by have := posN_bd _ hy2 _ (Nat.le_refl _); omega
  have HI : Hid (∀ W, Calls Try.prog 6 #[.string s] W (RetNtL W (unX s) (unC s))) := fun W => iUnpack_any s W (by omega)
  have HS : Hid (∀ W, Calls Try.prog 5 #[.string s] W (RetNtL W (unX s) (unC s))) := fun W => sUnpack_any s W (by omega)
  generalize unX s = ys at *
  generalize unC s = kc at *
  unfold RetNtL at HI HS
  have HEQY : Hid (∀ W C D f g, RdNt W W.heap.size C ys → RdNt W W.heap.size D ys → Calls Try.prog 7 #[.slice C ys.length f, .slice D ys.length g] W fun e w' => e = .returned (.bool true) ∧ Below W.heap.size W w') := fun W C D f g h k => eqNoteS_any C D f g ys W h k (fun x hx => by have := hy2 x hx; unfold maxLen; omega) (by omega)
  clear hs1 hy2
  go_enter Try.func3, Try.ntmps3
  go_wp2_with fail
  refine (HS.out _).mono ?_
  rintro e w3 ⟨A0, c0, rfl, hw0, hb⟩
  have E := Lib.hid hb
  have R3 := Lib.hid hw0.rd
  clear hb hw0 HS
  go_wp2_with fail
  refine (HI.out _).mono ?_
  rintro e w5 ⟨A1, c1, rfl, hw5, hb5⟩
  have D : Hid (Nl w w3.heap.size w3.heap.size w5.heap.size A0 A1 ys ys w5) := ⟨ext_trans E.out hb5, R3.out.below hb5, hw5, E.out.size, Nat.le_refl _, hb5.size⟩
  clear hw5 hb5 E R3
  go_wp2_with fail
  refine (HEQY.out _ _ _ _ _ D.out.rg D.out.rr).mono ?_
  rintro e w10 ⟨rfl, hb⟩
  replace D := Lib.hid (D.out.next hb)
  clear hb
  go_wp2_with fail
  refine (markNoteS_any A1 c1 ys w3.heap.size w5.heap.size 1 w10 D.out.g hposy (by omega) (by omega)).mono ?_
  rintro e w11 ⟨rfl, hg, hb, hs, _⟩
  replace D := Lib.hid (D.out.remark hg hb hs)
  clear hg hb hs
  go_wp2_with fail
  refine (heldNoteS_any A1 c1 ys 1 w11 D.out.rg hposy (by omega) (by omega)).mono ?_
  rintro e w12 ⟨rfl, hb⟩
  replace D := Lib.hid (D.out.next hb)
  clear hb
  have hn0 : ¬ ((1 : Int) + (posN ys ys.length : Int) < 0) := by omega
  go_wp2_with fail
  refine (HI.out _).mono ?_
  rintro e w14 ⟨A14, c14, rfl, hw14, hb⟩
  replace D := Lib.hid (D.out.next hb)
  clear hb HI
  go_wp2_with fail
  refine (HEQY.out _ _ _ _ _ (hw14.rd.more hw14.1) D.out.rr).mono ?_
  rintro e w15 ⟨rfl, hb⟩
  replace D := Lib.hid (D.out.next hb)
  clear hb hw14 HEQY
  go_wp2_with fail
  refine (heldNoteS_any A1 c1 ys 1 w15 D.out.rg hposy (by omega) (by omega)).mono ?_
  rintro e w16 ⟨rfl, hb⟩
  replace D := Lib.hid (D.out.next hb)
  clear hb
  go_wp2
  go_ret
  exact ⟨rfl, D.out.a⟩

theorem walk (s : ByteArray) (w : World) (_ : s.size ≤ maxLen) :
    Calls Try.prog 3 #[.string s] w fun e w' => e = .returned (.bool true) ∧ Below w.heap.size w w' := by
  by_cases hs : (s.size : Int) ≤ 1048576
  · exact walkG s w hs
  · have hs2 : decide (1048576 < (s.size : Int)) = true := decide_eq_true (by omega)
    go_enter Try.func3, Try.ntmps3
    go_wp2
    go_ret
    exact ⟨rfl, Below.refl _ _⟩

theorem own : ownKnob Try.prog.godebug = none := by kernel_rfl
theorem laidOut : laidOutB Try.prog = true := by kernel_rfl
set_option linter.unusedVariables false in
set_option maxRecDepth 100000 in
theorem lifted (os : Os) (started : os.Started) (H : Type) (enc : TypeId × Value → H) :
    ReturnsInHanded {} Try.checked os 3 .any (Rows.fnExactUnpackNotesSpec.pre6 enc Try.prog Try.f3 Rows.fnExactUnpackNotesRow.domain false) (Rows.fnExactUnpackNotesSpec.post enc Try.prog Try.f3 false true false false) := by
  refine returnsInHanded_of_change (C := Try.checked) own started (by kernel_rfl) Try.func3
    (ChangeSpec.witness6 (enc := enc) (C := Try.checked) false ⟨#[], #[.string ByteArray.empty], []⟩ 8 (by kernel_rfl) (by kernel_rfl) (by kernel_rfl) (by kernel_rfl)) ?_
  intro W base args ds gs before hval0 hW hcnd _
  have hval : ∀ (j : Nat) t v, Try.f3.params[j]? = some t → args[j]? = some v → Value.okWide Try.prog W .any base t v := hval0
  have hW' := hW
  obtain ⟨p, q, hA0, hV, rfl, hfz, hnd⟩ := hW
  have hA : DataW.TrodAll enc Try.prog W 0 (fun _ => true) true Try.f3.params.toList args.toList ds p := hA0
  rw [Try.params3] at hA hval
  obtain ⟨v0, vs0, d0, ds0, p0, q0, hargs, rfl, rfl, h0, r0⟩ := trodAll_cons hA
  obtain ⟨rfl, rfl, rfl⟩ := trodAll_nil r0
  obtain rfl : args = #[v0] := by cases args; simp_all
  obtain ⟨rfl, rfl⟩ := trodVars_none hV
  have k0 := h0
  have lt0 : ∀ x ∈ p0, x.block < W.heap.size := by obtain ⟨m, hm⟩ := k0; exact DataW.trod_lt m _ _ _ hm
  obtain ⟨a0, rfl, rfl, rfl, w0⟩ := open_string Try.underlying9 (hval 0 9 v0 rfl rfl) h0
  clear hA0 hval0
  refine (walk a0 W w0).mono fun e W' ⟨he, bel⟩ => ?_
  subst he
  exact ⟨_, rfl, _, _, _, [], _, [], hW', trodAll_mk1 (shut_bool Try.underlying4 _), (trodAll_cons_mk (Below.trod laidOut (by kernel_rfl) (of_decide_eq_true (by kernel_rfl)) k0 bel lt0) trodAll_mk0), rfl, bel.frame _, fun h => by cases h⟩

theorem jPlace : (Rows.fnExactUnpackNotesRow.inPlace == Try.prog.inPlace 3) = true := by kernel_rfl
theorem jFollow : (Rows.fnExactUnpackNotesRow.unfollowed == Try.prog.unfollowed 3) = true := by kernel_rfl
theorem jRecurse : (Rows.fnExactUnpackNotesRow.recurses == Try.prog.recurses 3) = true := by kernel_rfl
theorem jNamed : (Rows.fnExactUnpackNotesRow.named == Try.prog.varsNamed 3) = true := by kernel_rfl
theorem joined : joinedFacts Try.prog 3 Try.f3 Rows.fnExactUnpackNotesSpec Rows.fnExactUnpackNotesRow = true :=
  joined_of (by kernel_rfl) (by kernel_rfl) (by kernel_rfl) (by kernel_rfl) (by kernel_rfl) jPlace jFollow jRecurse jNamed (by kernel_rfl) (by kernel_rfl) (by kernel_rfl) (by kernel_rfl) (by kernel_rfl) (by kernel_rfl) (by kernel_rfl) (by kernel_rfl) (by kernel_rfl) rfl rfl rfl rfl rfl rfl (by kernel_rfl) (by kernel_rfl) (by kernel_rfl)
theorem over : Rows.fnExactUnpackNotesRow.holds Try.pinned (OpenSpec.ofChange Rows.fnExactUnpackNotesSpec) :=
  OpenClaim.holds_of_wide 3 Try.f3 rfl rfl rfl rfl rfl rfl rfl ⟨rfl, rfl, rfl, rfl, rfl⟩ rfl rfl rfl rfl rfl (by kernel_rfl) Try.func3 joined
    (of_decide_eq_true (by kernel_rfl)) (by unfold Func.isWrapper; first | (rw [if_pos (by decide +kernel)]; kernel_rfl) | (rw [if_neg (by decide +kernel)]; exact ⟨rfl, rfl⟩))
    (fun os started H enc _ => lifted os started H enc)

theorem proved : Rows.FnExactUnpackNotesSaid := over
#print axioms proved
end Go.Proofs.Ytkimmahmbacjpaa.fnExactUnpackNotes
