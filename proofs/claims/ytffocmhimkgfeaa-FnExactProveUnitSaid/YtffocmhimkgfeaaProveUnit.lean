/- Exact law: the program's ProveUnit returns what the reference's returns, for all arguments. No condition. -/
import Derived.Test.YtffocmhimkgfeaaUnitVW
import Derived.Test.YtffocmhimkgfeaaFrame
namespace Go.Proofs.Ytffocmhimkgfeaa.fnExactProveUnit
open Go.ChangeShapes Go.WideShapes Go.ChangeAt Go.RowKit
open Go.ChangeMaps (open_string shut_string)

set_option maxHeartbeats 1000000 in
theorem walkG (n : Int) (kk : Int) (xs : List Int) (code : Int) (w : World) (hl : xs.length ≤ 1000000000000000)
    (HS : Hid (∀ W, Calls Try.prog 61 #[.int .i64 n] W (RetCertC W kk xs code))) (HI : Hid (∀ W, Calls Try.prog 62 #[.int .i64 n] W (RetCertC W kk xs code))) :
    Calls Try.prog 9 #[.int .i64 n] w fun e w' => e = .returned (.bool true) ∧ Below w.heap.size w w' := by
  go_enter Try.func9, Try.ntmps9
  go_wp2_with fail
  refine (HS.out _).mono ?_
  rintro e w1 ⟨As, cs, rfl, hws, hb1⟩
  obtain ⟨hc1, hf1⟩ := bcellB hb1
  have hy1 := hb1.size
  (try simp at hy1)
  have E1 : Below w.heap.size w w1 := ext_trans (Below.refl _ _) hb1
  go_wp2_with fail
  refine (HI.out _).mono ?_
  rintro e w2 ⟨Ag, cg, rfl, hwg, hb2⟩
  obtain ⟨hc2, hf2⟩ := bcellB hb2
  have hy2 := hb2.size
  (try simp at hy2)
  have vs2 : w1.heap.size < w2.heap.size := by omega
  have E2 : Below w.heap.size w w2 := ext_trans (ext_alloc E1 _) hb2
  have Y2 : Below w1.heap.size w1 w2 := ext_trans (ext_alloc (Below.refl w1.heap.size w1) _) hb2
  go_wp2_with fail
  refine (eqCertificate_any kk _ _ _ _ xs _ (hwg.below (ext1 _ _)).rd ((hws.rd.below (ext_alloc Y2 _)).more (by simp; omega)) (by unfold maxLen; omega)).mono ?_
  rintro e w3 ⟨rfl, hb3⟩
  obtain ⟨hc3, hf3⟩ := bcellB hb3
  have hy3 := hb3.size
  (try simp at hy3)
  have vs3 : w1.heap.size < w3.heap.size := by omega
  have vg3 : w2.heap.size < w3.heap.size := by omega
  have E3 : Below w.heap.size w w3 := ext_trans (ext_alloc E2 _) hb3
  have Y3 : Below w1.heap.size w1 w3 := ext_trans (ext_alloc Y2 _) hb3
  have hwg2 := (hwg.below (ext1 _ _)).below hb3
  go_wp2_with fail
  refine (markCertificate_any kk _ _ xs _ 1 _ hwg2 (by (try simp); omega) hl (by omega) (by omega)).mono ?_
  rintro e w4 ⟨rfl, hwm, hb4, hs4, ho4⟩
  obtain ⟨hc4, hf4⟩ := bcellB hb4
  have hy4 := hb4.size
  (try simp at hy4)
  have vs4 : w1.heap.size < w4.heap.size := by omega
  have vg4 : w2.heap.size < w4.heap.size := by omega
  have E4 : Below w.heap.size w w4 := (E3).trans (hb4.mono (by have := E3.size; have := E1.size; (try simp only [World.size_alloc]); omega))
  have hg4 : ∀ o, w4.cell? ⟨w2.heap.size, o, none⟩ = w3.cell? ⟨w2.heap.size, o, none⟩ := ho4 _ (hwg.apart (Nat.le_refl _)) (by omega)
  have Y4 : Below w1.heap.size w1 w4 := (Y3).trans (hb4.mono (by (try simp only [World.size_alloc]); omega))
  go_wp2_with fail
  refine (heldCertificate_any kk _ _ xs.length 1 _ hwm.rd hl (by omega) (by omega)).mono ?_
  rintro e w5 ⟨rfl, hb5⟩
  obtain ⟨hc5, hf5⟩ := bcellB hb5
  have hy5 := hb5.size
  (try simp at hy5)
  have vs5 : w1.heap.size < w5.heap.size := by omega
  have vg5 : w2.heap.size < w5.heap.size := by omega
  have E5 : Below w.heap.size w w5 := ext_trans (E4) hb5
  have Y5 : Below w1.heap.size w1 w5 := ext_trans (Y4) hb5
  have Z5 : Below w4.heap.size w4 w5 := ext_trans ((Below.refl w4.heap.size w4)) hb5
  go_wp2_with fail
  refine (HI.out _).mono ?_
  rintro e w6 ⟨Ah, ch, rfl, hwh, hb6⟩
  obtain ⟨hc6, hf6⟩ := bcellB hb6
  have hy6 := hb6.size
  (try simp at hy6)
  have vs6 : w1.heap.size < w6.heap.size := by omega
  have vg6 : w2.heap.size < w6.heap.size := by omega
  have E6 : Below w.heap.size w w6 := ext_trans (E5) hb6
  have Y6 : Below w1.heap.size w1 w6 := ext_trans (Y5) hb6
  have Z6 : Below w4.heap.size w4 w6 := ext_trans (Z5) hb6
  go_wp2_with fail
  refine (eqCertificate_any kk _ _ _ _ xs _ (hwh.below (ext1 _ _)).rd ((hws.rd.below (ext_alloc Y6 _)).more (by simp; omega)) (by unfold maxLen; omega)).mono ?_
  rintro e w7 ⟨rfl, hb7⟩
  obtain ⟨hc7, hf7⟩ := bcellB hb7
  have hy7 := hb7.size
  (try simp at hy7)
  have vs7 : w1.heap.size < w7.heap.size := by omega
  have vg7 : w2.heap.size < w7.heap.size := by omega
  have vh7 : w6.heap.size < w7.heap.size := by omega
  have E7 : Below w.heap.size w w7 := ext_trans (ext_alloc E6 _) hb7
  have Y7 : Below w1.heap.size w1 w7 := ext_trans (ext_alloc Y6 _) hb7
  have Z7 : Below w4.heap.size w4 w7 := ext_trans (ext_alloc Z6 _) hb7
  go_wp2_with fail
  refine (heldCertificate_any kk _ _ xs.length 1 _ ((hwm.rd.below (Z7)).more (by (try simp); omega)) hl (by omega) (by omega)).mono ?_
  rintro e w8 ⟨rfl, hb8⟩
  obtain ⟨hc8, hf8⟩ := bcellB hb8
  have hy8 := hb8.size
  (try simp at hy8)
  have vs8 : w1.heap.size < w8.heap.size := by omega
  have vg8 : w2.heap.size < w8.heap.size := by omega
  have vh8 : w6.heap.size < w8.heap.size := by omega
  have E8 : Below w.heap.size w w8 := ext_trans (E7) hb8
  have Y8 : Below w1.heap.size w1 w8 := ext_trans (Y7) hb8
  have Z8 : Below w4.heap.size w4 w8 := ext_trans (Z7) hb8
  go_wp2
  go_ret
  exact ⟨rfl, E8⟩

theorem walk (n : Int) (w : World) (_ : (Lit.int .i64 n).wf = true) :
    Calls Try.prog 9 #[.int .i64 n] w fun e w' => e = .returned (.bool true) ∧ Below w.heap.size w w' :=
  walkG n _ _ _ w (by have := puX_length n; omega) (sProveUnit_any n) (iProveUnit_any n)

theorem own : ownKnob Try.prog.godebug = none := by kernel_rfl
theorem laidOut : laidOutB Try.prog = true := by kernel_rfl
set_option linter.unusedVariables false in
set_option maxRecDepth 100000 in
theorem lifted (os : Os) (started : os.Started) (H : Type) (enc : TypeId × Value → H) :
    ReturnsInHanded {} Try.checked os 9 .any (Rows.fnExactProveUnitSpec.pre6 enc Try.prog Try.f9 Rows.fnExactProveUnitRow.domain false) (Rows.fnExactProveUnitSpec.post enc Try.prog Try.f9 false true false false) := by
  refine returnsInHanded_of_change (C := Try.checked) own started (by kernel_rfl) Try.func9
    (ChangeSpec.witness6 (enc := enc) (C := Try.checked) false ⟨#[], #[.int .i64 0], []⟩ 8 (by kernel_rfl) (by kernel_rfl) (by kernel_rfl) (by kernel_rfl)) ?_
  intro W base args ds gs before hval0 hW hcnd _
  have hval : ∀ (j : Nat) t v, Try.f9.params[j]? = some t → args[j]? = some v → Value.okWide Try.prog W .any base t v := hval0
  have hW' := hW
  obtain ⟨p, q, hA0, hV, rfl, hfz, hnd⟩ := hW
  have hA : DataW.TrodAll enc Try.prog W 0 (fun _ => true) true Try.f9.params.toList args.toList ds p := hA0
  rw [Try.params9] at hA hval
  obtain ⟨v0, vs0, d0, ds0, p0, q0, hargs, rfl, rfl, h0, r0⟩ := trodAll_cons hA
  obtain ⟨rfl, rfl, rfl⟩ := trodAll_nil r0
  obtain rfl : args = #[v0] := by cases args; simp_all
  obtain ⟨rfl, rfl⟩ := trodVars_none hV
  have k0 := h0
  have lt0 : ∀ x ∈ p0, x.block < W.heap.size := by obtain ⟨m, hm⟩ := k0; exact DataW.trod_lt m _ _ _ hm
  obtain ⟨a0, rfl, rfl, rfl, w0⟩ := open_int Try.underlying2 (hval 0 2 v0 rfl rfl) h0
  clear hA0 hval0
  refine (walk a0 W w0).mono fun e W' ⟨he, bel⟩ => ?_
  subst he
  exact ⟨_, rfl, _, _, _, [], _, [], hW', trodAll_mk1 (shut_bool Try.underlying4 _), (trodAll_cons_mk (Below.trod laidOut (by kernel_rfl) (of_decide_eq_true (by kernel_rfl)) k0 bel lt0) trodAll_mk0), rfl, bel.frame _, fun h => by cases h⟩

theorem jPlace : (Rows.fnExactProveUnitRow.inPlace == Try.prog.inPlace 9) = true := by kernel_rfl
theorem jFollow : (Rows.fnExactProveUnitRow.unfollowed == Try.prog.unfollowed 9) = true := by kernel_rfl
theorem jRecurse : (Rows.fnExactProveUnitRow.recurses == Try.prog.recurses 9) = true := by kernel_rfl
theorem jNamed : (Rows.fnExactProveUnitRow.named == Try.prog.varsNamed 9) = true := by kernel_rfl
theorem joined : joinedFacts Try.prog 9 Try.f9 Rows.fnExactProveUnitSpec Rows.fnExactProveUnitRow = true :=
  joined_of (by kernel_rfl) (by kernel_rfl) (by kernel_rfl) (by kernel_rfl) (by kernel_rfl) jPlace jFollow jRecurse jNamed (by kernel_rfl) (by kernel_rfl) (by kernel_rfl) (by kernel_rfl) (by kernel_rfl) (by kernel_rfl) (by kernel_rfl) (by kernel_rfl) (by kernel_rfl) rfl rfl rfl rfl rfl rfl (by kernel_rfl) (by kernel_rfl) (by kernel_rfl)
theorem over : Rows.fnExactProveUnitRow.holds Try.pinned (OpenSpec.ofChange Rows.fnExactProveUnitSpec) :=
  OpenClaim.holds_of_wide 9 Try.f9 rfl rfl rfl rfl rfl rfl rfl ⟨rfl, rfl, rfl, rfl, rfl⟩ rfl rfl rfl rfl rfl (by kernel_rfl) Try.func9 joined
    (of_decide_eq_true (by kernel_rfl)) (by unfold Func.isWrapper; first | (rw [if_pos (by decide +kernel)]; kernel_rfl) | (rw [if_neg (by decide +kernel)]; exact ⟨rfl, rfl⟩))
    (fun os started H enc _ => lifted os started H enc)

theorem proved : Rows.FnExactProveUnitSaid := over
#print axioms proved
end Go.Proofs.Ytffocmhimkgfeaa.fnExactProveUnit
