/- Exact law: the program's ProvePeriod returns what the reference's returns, for all arguments. No condition. -/
import Derived.Test.YtffocmhimkgfeaaProvePW
import Derived.Test.YtffocmhimkgfeaaFrame
namespace Go.Proofs.Ytffocmhimkgfeaa.fnExactProvePeriod
open Go.ChangeShapes Go.WideShapes Go.ChangeAt Go.RowKit
open Go.ChangeMaps (open_string shut_string)

set_option maxHeartbeats 1000000 in
theorem walkG (p d q : Int) (kk : Int) (xs : List Int) (code : Int) (w : World) (hl : xs.length ≤ 1000000000000000)
    (HS : Hid (∀ W, Calls Try.prog 55 #[surdV p d q] W (RetCertC W kk xs code))) (HI : Hid (∀ W, Calls Try.prog 57 #[surdV p d q] W (RetCertC W kk xs code))) :
    Calls Try.prog 8 #[surdV p d q] w fun e w' => e = .returned (.bool true) ∧ Below w.heap.size w w' := by
  unfold surdV at *
  go_enter Try.func8, Try.ntmps8
  go_wp2_with fail
  refine (toSurd_any p d q _).mono ?_
  rintro e w1 ⟨rfl, hb1⟩
  obtain ⟨hc1, hf1⟩ := bcellB hb1
  have hy1 := hb1.size
  (try simp at hy1)
  have hz1_0 : w.heap.size < w1.heap.size := by omega
  have E1 : Below w.heap.size w w1 := ext_trans (ext_alloc (Below.refl _ _) _) hb1
  go_wp2_with fail
  refine (HS.out _).mono ?_
  rintro e w2 ⟨As, cs, rfl, hws, hb2⟩
  obtain ⟨hc2, hf2⟩ := bcellB hb2
  have hy2 := hb2.size
  (try simp at hy2)
  have hz2_0 : w.heap.size < w2.heap.size := by omega
  have E2 : Below w.heap.size w w2 := ext_trans (E1) hb2
  go_wp2_with fail
  refine (toSurd_any p d q _).mono ?_
  rintro e w3 ⟨rfl, hb3⟩
  obtain ⟨hc3, hf3⟩ := bcellB hb3
  have hy3 := hb3.size
  (try simp at hy3)
  have hz3_0 : w.heap.size < w3.heap.size := by omega
  have vs3 : w2.heap.size < w3.heap.size := by omega
  have E3 : Below w.heap.size w w3 := ext_trans (ext_alloc E2 _) hb3
  have Y3 : Below w2.heap.size w2 w3 := ext_trans (ext_alloc (Below.refl w2.heap.size w2) _) hb3
  go_wp2_with fail
  refine (HI.out _).mono ?_
  rintro e w4 ⟨Ag, cg, rfl, hwg, hb4⟩
  obtain ⟨hc4, hf4⟩ := bcellB hb4
  have hy4 := hb4.size
  (try simp at hy4)
  have hz4_0 : w.heap.size < w4.heap.size := by omega
  have vs4 : w2.heap.size < w4.heap.size := by omega
  have E4 : Below w.heap.size w w4 := ext_trans (E3) hb4
  have Y4 : Below w2.heap.size w2 w4 := ext_trans (Y3) hb4
  go_wp2_with fail
  refine (eqCertificate_any kk _ _ _ _ xs _ (hwg.below (ext1 _ _)).rd ((hws.rd.below (ext_alloc Y4 _)).more (by simp; omega)) (by unfold maxLen; omega)).mono ?_
  rintro e w5 ⟨rfl, hb5⟩
  obtain ⟨hc5, hf5⟩ := bcellB hb5
  have hy5 := hb5.size
  (try simp at hy5)
  have hz5_0 : w.heap.size < w5.heap.size := by omega
  have vs5 : w2.heap.size < w5.heap.size := by omega
  have vg5 : w4.heap.size < w5.heap.size := by omega
  have E5 : Below w.heap.size w w5 := ext_trans (ext_alloc E4 _) hb5
  have Y5 : Below w2.heap.size w2 w5 := ext_trans (ext_alloc Y4 _) hb5
  have hwg2 := (hwg.below (ext1 _ _)).below hb5
  go_wp2_with fail
  refine (markCertificate_any kk _ _ xs _ 1 _ hwg2 (by (try simp); omega) hl (by omega) (by omega)).mono ?_
  rintro e w6 ⟨rfl, hwm, hb6, hs6, ho6⟩
  obtain ⟨hc6, hf6⟩ := bcellB hb6
  have hy6 := hb6.size
  (try simp at hy6)
  have hz6_0 : w.heap.size < w6.heap.size := by omega
  have vs6 : w2.heap.size < w6.heap.size := by omega
  have vg6 : w4.heap.size < w6.heap.size := by omega
  have E6 : Below w.heap.size w w6 := (E5).trans (hb6.mono (by have := E5.size; have := E2.size; (try simp only [World.size_alloc]); omega))
  have hg6 : ∀ o, w6.cell? ⟨w4.heap.size, o, none⟩ = w5.cell? ⟨w4.heap.size, o, none⟩ := ho6 _ (hwg.apart (Nat.le_refl _)) (by omega)
  have Y6 : Below w2.heap.size w2 w6 := (Y5).trans (hb6.mono (by (try simp only [World.size_alloc]); omega))
  go_wp2_with fail
  refine (heldCertificate_any kk _ _ xs.length 1 _ hwm.rd hl (by omega) (by omega)).mono ?_
  rintro e w7 ⟨rfl, hb7⟩
  obtain ⟨hc7, hf7⟩ := bcellB hb7
  have hy7 := hb7.size
  (try simp at hy7)
  have hz7_0 : w.heap.size < w7.heap.size := by omega
  have vs7 : w2.heap.size < w7.heap.size := by omega
  have vg7 : w4.heap.size < w7.heap.size := by omega
  have E7 : Below w.heap.size w w7 := ext_trans (E6) hb7
  have Y7 : Below w2.heap.size w2 w7 := ext_trans (Y6) hb7
  have Z7 : Below w6.heap.size w6 w7 := ext_trans ((Below.refl w6.heap.size w6)) hb7
  go_wp2_with fail
  refine (toSurd_any p d q _).mono ?_
  rintro e w8 ⟨rfl, hb8⟩
  obtain ⟨hc8, hf8⟩ := bcellB hb8
  have hy8 := hb8.size
  (try simp at hy8)
  have hz8_0 : w.heap.size < w8.heap.size := by omega
  have vs8 : w2.heap.size < w8.heap.size := by omega
  have vg8 : w4.heap.size < w8.heap.size := by omega
  have E8 : Below w.heap.size w w8 := ext_trans (E7) hb8
  have Y8 : Below w2.heap.size w2 w8 := ext_trans (Y7) hb8
  have Z8 : Below w6.heap.size w6 w8 := ext_trans (Z7) hb8
  go_wp2_with fail
  refine (HI.out _).mono ?_
  rintro e w9 ⟨Ah, ch, rfl, hwh, hb9⟩
  obtain ⟨hc9, hf9⟩ := bcellB hb9
  have hy9 := hb9.size
  (try simp at hy9)
  have hz9_0 : w.heap.size < w9.heap.size := by omega
  have vs9 : w2.heap.size < w9.heap.size := by omega
  have vg9 : w4.heap.size < w9.heap.size := by omega
  have E9 : Below w.heap.size w w9 := ext_trans (E8) hb9
  have Y9 : Below w2.heap.size w2 w9 := ext_trans (Y8) hb9
  have Z9 : Below w6.heap.size w6 w9 := ext_trans (Z8) hb9
  go_wp2_with fail
  refine (eqCertificate_any kk _ _ _ _ xs _ (hwh.below (ext1 _ _)).rd ((hws.rd.below (ext_alloc Y9 _)).more (by simp; omega)) (by unfold maxLen; omega)).mono ?_
  rintro e w10 ⟨rfl, hb10⟩
  obtain ⟨hc10, hf10⟩ := bcellB hb10
  have hy10 := hb10.size
  (try simp at hy10)
  have hz10_0 : w.heap.size < w10.heap.size := by omega
  have vs10 : w2.heap.size < w10.heap.size := by omega
  have vg10 : w4.heap.size < w10.heap.size := by omega
  have vh10 : w9.heap.size < w10.heap.size := by omega
  have E10 : Below w.heap.size w w10 := ext_trans (ext_alloc E9 _) hb10
  have Y10 : Below w2.heap.size w2 w10 := ext_trans (ext_alloc Y9 _) hb10
  have Z10 : Below w6.heap.size w6 w10 := ext_trans (ext_alloc Z9 _) hb10
  go_wp2_with fail
  refine (heldCertificate_any kk _ _ xs.length 1 _ ((hwm.rd.below (Z10)).more (by (try simp); omega)) hl (by omega) (by omega)).mono ?_
  rintro e w11 ⟨rfl, hb11⟩
  obtain ⟨hc11, hf11⟩ := bcellB hb11
  have hy11 := hb11.size
  (try simp at hy11)
  have hz11_0 : w.heap.size < w11.heap.size := by omega
  have vs11 : w2.heap.size < w11.heap.size := by omega
  have vg11 : w4.heap.size < w11.heap.size := by omega
  have vh11 : w9.heap.size < w11.heap.size := by omega
  have E11 : Below w.heap.size w w11 := ext_trans (E10) hb11
  have Y11 : Below w2.heap.size w2 w11 := ext_trans (Y10) hb11
  have Z11 : Below w6.heap.size w6 w11 := ext_trans (Z10) hb11
  go_wp2
  go_ret
  exact ⟨rfl, E11⟩

theorem walk (p d q : Int) (w : World) (_ : (Lit.int .i64 p).wf = true) (_ : (Lit.int .i64 d).wf = true) (_ : (Lit.int .i64 q).wf = true) :
    Calls Try.prog 8 #[.agg #[.int .i64 p, .int .i64 d, .int .i64 q]] w fun e w' => e = .returned (.bool true) ∧ Below w.heap.size w w' :=
  walkG p d q _ _ _ w (by have := ppX_length (p, d, q); omega) (sProvePeriod_any p d q) (iProvePeriod_any p d q)

theorem own : ownKnob Try.prog.godebug = none := by kernel_rfl
theorem laidOut : laidOutB Try.prog = true := by kernel_rfl
set_option linter.unusedVariables false in
set_option maxRecDepth 100000 in
theorem lifted (os : Os) (started : os.Started) (H : Type) (enc : TypeId × Value → H) :
    ReturnsInHanded {} Try.checked os 8 .any (Rows.fnExactProvePeriodSpec.pre6 enc Try.prog Try.f8 Rows.fnExactProvePeriodRow.domain false) (Rows.fnExactProvePeriodSpec.post enc Try.prog Try.f8 false true false false) := by
  refine returnsInHanded_of_change (C := Try.checked) own started (by kernel_rfl) Try.func8
    (ChangeSpec.witness6 (enc := enc) (C := Try.checked) false ⟨#[], #[.agg #[.int .i64 0, .int .i64 0, .int .i64 0]], []⟩ 8 (by kernel_rfl) (by kernel_rfl) (by kernel_rfl) (by kernel_rfl)) ?_
  intro W base args ds gs before hval0 hW hcnd _
  have hval : ∀ (j : Nat) t v, Try.f8.params[j]? = some t → args[j]? = some v → Value.okWide Try.prog W .any base t v := hval0
  have hW' := hW
  obtain ⟨p, q, hA0, hV, rfl, hfz, hnd⟩ := hW
  have hA : DataW.TrodAll enc Try.prog W 0 (fun _ => true) true Try.f8.params.toList args.toList ds p := hA0
  rw [Try.params8] at hA hval
  obtain ⟨v0, vs0, d0, ds0, p0, q0, hargs, rfl, rfl, h0, r0⟩ := trodAll_cons hA
  obtain ⟨rfl, rfl, rfl⟩ := trodAll_nil r0
  obtain rfl : args = #[v0] := by cases args; simp_all
  obtain ⟨rfl, rfl⟩ := trodVars_none hV
  have k0 := h0
  have lt0 : ∀ x ∈ p0, x.block < W.heap.size := by obtain ⟨m, hm⟩ := k0; exact DataW.trod_lt m _ _ _ hm
  obtain ⟨u0_0, u0_1, u0_2, y0_0, y0_1, y0_2, n0, rfl, _, _, g0_0, g0_1, g0_2⟩ := Joins.open_agg3 Try.underlying71 (by kernel_rfl) (by kernel_rfl) (hval 0 71 v0 rfl rfl) h0
  obtain ⟨f0_0, ef0_0, _, wf0_0⟩ := DataW.trod_int Try.underlying2 g0_0
  simp only [List.cons.injEq, and_true] at ef0_0
  subst ef0_0
  obtain ⟨f0_1, ef0_1, _, wf0_1⟩ := DataW.trod_int Try.underlying2 g0_1
  simp only [List.cons.injEq, and_true] at ef0_1
  subst ef0_1
  obtain ⟨f0_2, ef0_2, _, wf0_2⟩ := DataW.trod_int Try.underlying2 g0_2
  simp only [List.cons.injEq, and_true] at ef0_2
  subst ef0_2
  clear hA0 hval0
  refine (walk f0_0 f0_1 f0_2 W wf0_0 wf0_1 wf0_2).mono fun e W' ⟨he, bel⟩ => ?_
  subst he
  exact ⟨_, rfl, _, _, _, [], _, [], hW', trodAll_mk1 (shut_bool Try.underlying4 _), (trodAll_cons_mk (Below.trod laidOut (by kernel_rfl) (of_decide_eq_true (by kernel_rfl)) k0 bel lt0) trodAll_mk0), rfl, bel.frame _, fun h => by cases h⟩

theorem jPlace : (Rows.fnExactProvePeriodRow.inPlace == Try.prog.inPlace 8) = true := by kernel_rfl
theorem jFollow : (Rows.fnExactProvePeriodRow.unfollowed == Try.prog.unfollowed 8) = true := by kernel_rfl
theorem jRecurse : (Rows.fnExactProvePeriodRow.recurses == Try.prog.recurses 8) = true := by kernel_rfl
theorem jNamed : (Rows.fnExactProvePeriodRow.named == Try.prog.varsNamed 8) = true := by kernel_rfl
theorem joined : joinedFacts Try.prog 8 Try.f8 Rows.fnExactProvePeriodSpec Rows.fnExactProvePeriodRow = true :=
  joined_of (by kernel_rfl) (by kernel_rfl) (by kernel_rfl) (by kernel_rfl) (by kernel_rfl) jPlace jFollow jRecurse jNamed (by kernel_rfl) (by kernel_rfl) (by kernel_rfl) (by kernel_rfl) (by kernel_rfl) (by kernel_rfl) (by kernel_rfl) (by kernel_rfl) (by kernel_rfl) rfl rfl rfl rfl rfl rfl (by kernel_rfl) (by kernel_rfl) (by kernel_rfl)
theorem over : Rows.fnExactProvePeriodRow.holds Try.pinned (OpenSpec.ofChange Rows.fnExactProvePeriodSpec) :=
  OpenClaim.holds_of_wide 8 Try.f8 rfl rfl rfl rfl rfl rfl rfl ⟨rfl, rfl, rfl, rfl, rfl⟩ rfl rfl rfl rfl rfl (by kernel_rfl) Try.func8 joined
    (of_decide_eq_true (by kernel_rfl)) (by unfold Func.isWrapper; first | (rw [if_pos (by decide +kernel)]; kernel_rfl) | (rw [if_neg (by decide +kernel)]; exact ⟨rfl, rfl⟩))
    (fun os started H enc _ => lifted os started H enc)

theorem proved : Rows.FnExactProvePeriodSaid := over
#print axioms proved
end Go.Proofs.Ytffocmhimkgfeaa.fnExactProvePeriod
