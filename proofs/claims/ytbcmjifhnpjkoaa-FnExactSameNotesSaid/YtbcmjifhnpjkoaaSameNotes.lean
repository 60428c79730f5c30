/- Exact law: the program's SameNotes returns what the reference's returns, for all arguments. No condition. -/
import Derived.Test.YtbcmjifhnpjkoaaSameNotesW
import Derived.Test.YtbcmjifhnpjkoaaOpenNt
namespace Go.Proofs.Ytbcmjifhnpjkoaa.fnExactSameNotes
open Go.ChangeShapes Go.WideShapes Go.ChangeAt Go.RowKit
open Go.ChangeMaps (open_string shut_string)

set_option maxHeartbeats 1000000 in
theorem walkG (A B : Option Addr) (c d : Nat) (xs ys : List Nt) (w : World) (hx : RdNt w w.heap.size A xs) (hy : RdNt w w.heap.size B ys) (hf : ∀ x ∈ xs, x.fits) (hg : ∀ y ∈ ys, y.fits) (hm : xs.length ≤ maxLen) (hm' : ys.length ≤ maxLen) :
    Calls Try.prog 10 #[.slice A xs.length c, .slice B ys.length d] w fun e w' => e = .returned (.bool true) ∧ Below w.heap.size w w' := by
  have hx2 : ∀ W : World, Below w.heap.size w W → RdNt W W.heap.size A xs := fun W hb => (hx.below hb).more hb.size
  have hy2 : ∀ W : World, Below w.heap.size w W → RdNt W W.heap.size B ys := fun W hb => (hy.below hb).more hb.size
  have HX := Lib.hid hx2
  have HY := Lib.hid hy2
  have HF := Lib.hid hf
  have HG := Lib.hid hg
  clear hx2 hy2 hx hy hf hg
  obtain ⟨tx, htx⟩ : ∃ t : Nat, xs.length + ntTot xs = t := ⟨_, rfl⟩
  obtain ⟨ty, hty⟩ : ∃ t : Nat, ys.length + ntTot ys = t := ⟨_, rfl⟩
  have HZA : Hid (∀ W, Below w.heap.size w W → Calls Try.prog 42 #[.slice A xs.length c, .int .i64 1048576] W fun e w' => e = .returned (.int .i64 (if (tx : Int) ≤ 1048576 then 1048576 - tx else -1)) ∧ Below W.heap.size W w') := fun W hb => by
    have := szNoteS_any A c xs 1048576 W (HX.out W hb) HF.out hm (by omega) (by omega)
    rwa [htx] at this
  have B0 := Lib.hid (Below.refl w.heap.size w)
  by_cases h1 : (tx : Int) ≤ 1048576
  · rw [if_pos h1] at HZA
    have HZB : Hid (∀ W, Below w.heap.size w W → Calls Try.prog 42 #[.slice B ys.length d, .int .i64 (1048576 - tx)] W fun e w' => e = .returned (.int .i64 (if (ty : Int) ≤ 1048576 - tx then 1048576 - tx - ty else -1)) ∧ Below W.heap.size W w') := fun W hb => by
      have := szNoteS_any B d ys (1048576 - tx) W (HY.out W hb) HG.out hm' (by omega) (by omega)
      rwa [hty] at this
    have hl0 : 0 ≤ (1048576 : Int) - tx := by omega
    by_cases h2 : (ty : Int) ≤ 1048576 - tx
    · rw [if_pos h2] at HZB
      have hl1 : 0 ≤ (1048576 : Int) - tx - ty := by omega
      have hX : xs.length ≤ 1048576 ∧ ∀ x ∈ xs, x.terms.length ≤ 1048576 := ⟨by omega, fun x hx => by have := nt_le hx; omega⟩
      have hY : ys.length ≤ 1048576 ∧ ∀ x ∈ ys, x.terms.length ≤ 1048576 := ⟨by omega, fun x hx => by have := nt_le hx; omega⟩
      have HCA : Hid (∀ W, Below w.heap.size w W → Calls Try.prog 44 #[.slice A xs.length c] W fun e w' => ∃ D f, e = .returned (.slice D xs.length f) ∧ WrNt w' W.heap.size D xs ∧ Below W.heap.size W w') := fun W h => toNoteS_any A c xs W (HX.out W h) hX.2 hX.1
      have HCB : Hid (∀ W, Below w.heap.size w W → Calls Try.prog 44 #[.slice B ys.length d] W fun e w' => ∃ D f, e = .returned (.slice D ys.length f) ∧ WrNt w' W.heap.size D ys ∧ Below W.heap.size W w') := fun W h => toNoteS_any B d ys W (HY.out W h) hY.2 hY.1
      have HEA : Hid (∀ W C D f g, RdNt W W.heap.size C xs → RdNt W W.heap.size D xs → Calls Try.prog 46 #[.slice C xs.length f, .slice D xs.length g] W fun e w' => e = .returned (.bool true) ∧ Below W.heap.size W w') := fun W C D f g h k => eqNoteS_any C D f g xs W h k (fun x hx => (HF.out x hx).2) hX.1
      have HEB : Hid (∀ W C D f g, RdNt W W.heap.size C ys → RdNt W W.heap.size D ys → Calls Try.prog 46 #[.slice C ys.length f, .slice D ys.length g] W fun e w' => e = .returned (.bool true) ∧ Below W.heap.size W w') := fun W C D f g h k => eqNoteS_any C D f g ys W h k (fun x hx => (HG.out x hx).2) hY.1
      clear hX hY htx hty
      go_enter Try.func10, Try.ntmps10
      go_wp2_with fail
      refine (HZA.out _ B0.out).mono ?_
      rintro e w1 ⟨rfl, E1⟩
      go_wp2_with fail
      refine (HZB.out _ E1).mono ?_
      rintro e w2 ⟨rfl, hb2⟩
      have E2 := ext_trans E1 hb2
      go_wp2_with fail
      refine (HCA.out _ E2).mono ?_
      rintro e w3 ⟨C3, c3, rfl, hw3, hb3⟩
      have E3 := ext_trans E2 hb3
      go_wp2_with fail
      refine (HCB.out _ E3).mono ?_
      rintro e w4 ⟨C4, c4, rfl, hw4, hb4⟩
      have E4 := ext_trans E3 hb4
      go_wp2_with fail
      refine (sSameNotes_any _ _ _ _ xs ys _ (hw3.rd.next hb4) hw4.rd HF.out HG.out hm).mono ?_
      rintro e w5 ⟨rfl, hb5⟩
      have E5 := ext_trans E4 hb5
      go_wp2_with fail
      refine (HCA.out _ E5).mono ?_
      rintro e w6 ⟨C6, c6, rfl, hw6, hb6⟩
      have E6 := ext_trans E5 hb6
      go_wp2_with fail
      refine (HCB.out _ E6).mono ?_
      rintro e w7 ⟨C7, c7, rfl, hw7, hb7⟩
      have E7 := ext_trans E6 hb7
      have r6 := hw6.rd.next hb7
      go_wp2_with fail
      refine (iSameNotes_any _ _ _ _ xs ys _ r6 hw7.rd HF.out HG.out hm).mono ?_
      rintro e w8 ⟨rfl, hb8⟩
      have E8 := ext_trans E7 hb8
      have r6' := r6.next hb8
      have r7' := hw7.rd.next hb8
      go_wp2_with fail
      refine (HCA.out _ E8).mono ?_
      rintro e w9 ⟨C9, c9, rfl, hw9, hb9⟩
      have E9 := ext_trans E8 hb9
      go_wp2_with fail
      refine (HEA.out _ _ _ _ _ (r6'.next hb9) hw9.rd).mono ?_
      rintro e w10 ⟨rfl, hb10⟩
      have E10 := ext_trans E9 hb10
      have r7'' := (r7'.next hb9).next hb10
      go_wp2_with fail
      refine (HCB.out _ E10).mono ?_
      rintro e w11 ⟨C11, c11, rfl, hw11, hb11⟩
      have E11 := ext_trans E10 hb11
      go_wp2_with fail
      refine (HEB.out _ _ _ _ _ (r7''.next hb11) hw11.rd).mono ?_
      rintro e w12 ⟨rfl, hb12⟩
      go_wp2
      go_ret
      exact ⟨rfl, ext_trans E11 hb12⟩
    · rw [if_neg h2] at HZB
      go_enter Try.func10, Try.ntmps10
      go_wp2_with fail
      refine (HZA.out _ B0.out).mono ?_
      rintro e w1 ⟨rfl, E1⟩
      go_wp2_with fail
      refine (HZB.out _ E1).mono ?_
      rintro e w2 ⟨rfl, hb2⟩
      go_wp2
      go_ret
      exact ⟨rfl, ext_trans E1 hb2⟩
  · rw [if_neg h1] at HZA
    go_enter Try.func10, Try.ntmps10
    go_wp2_with fail
    refine (HZA.out _ B0.out).mono ?_
    rintro e w1 ⟨rfl, hb1⟩
    go_wp2
    go_ret
    exact ⟨rfl, hb1⟩

theorem walk (A : Option Addr) (l c : Nat) (xs : List Nt) (B : Option Addr) (m d : Nat) (ys : List Nt) (w : World) (hx : IsNt w A l xs) (hy : IsNt w B m ys) :
    Calls Try.prog 10 #[.slice A l c, .slice B m d] w fun e w' => e = .returned (.bool true) ∧ Below w.heap.size w w' := by
  obtain ⟨rfl, h1, h2, h3⟩ := hx
  obtain ⟨rfl, g1, g2, g3⟩ := hy
  exact walkG A B c d xs ys w h3 g3 h2 g2 h1 g1

theorem own : ownKnob Try.prog.godebug = none := by kernel_rfl
theorem laidOut : laidOutB Try.prog = true := by kernel_rfl
set_option linter.unusedVariables false in
set_option maxRecDepth 100000 in
theorem lifted (os : Os) (started : os.Started) (H : Type) (enc : TypeId × Value → H) :
    ReturnsInHanded {} Try.checked os 10 .any (Rows.fnExactSameNotesSpec.pre6 enc Try.prog Try.f10 Rows.fnExactSameNotesRow.domain false) (Rows.fnExactSameNotesSpec.post enc Try.prog Try.f10 false true false false) := by
  refine returnsInHanded_of_change (C := Try.checked) own started (by kernel_rfl) Try.func10
    (ChangeSpec.witness6 (enc := enc) (C := Try.checked) false ⟨#[], #[.slice none 0 0, .slice none 0 0], []⟩ 8 (by kernel_rfl) (by kernel_rfl) (by kernel_rfl) (by kernel_rfl)) ?_
  intro W base args ds gs before hval0 hW hcnd _
  have hval : ∀ (j : Nat) t v, Try.f10.params[j]? = some t → args[j]? = some v → Value.okWide Try.prog W .any base t v := hval0
  have hW' := hW
  obtain ⟨p, q, hA0, hV, rfl, hfz, hnd⟩ := hW
  have hA : DataW.TrodAll enc Try.prog W 0 (fun _ => true) true Try.f10.params.toList args.toList ds p := hA0
  rw [Try.params10] at hA hval
  obtain ⟨v0, vs0, d0, ds0, p0, q0, hargs, rfl, rfl, h0, r0⟩ := trodAll_cons hA
  obtain ⟨v1, vs1, d1, ds1, p1, q1, rfl, rfl, rfl, h1, r1⟩ := trodAll_cons r0
  obtain ⟨rfl, rfl, rfl⟩ := trodAll_nil r1
  obtain rfl : args = #[v0, v1] := by cases args; simp_all
  obtain ⟨rfl, rfl⟩ := trodVars_none hV
  have k0 := h0
  have lt0 : ∀ x ∈ p0, x.block < W.heap.size := by obtain ⟨m, hm⟩ := k0; exact DataW.trod_lt m _ _ _ hm
  obtain ⟨A0, l0, c0, rfl⟩ := okWide_slice Try.underlying64 (hval 0 64 v0 rfl rfl)
  obtain ⟨z0, w0⟩ : ∃ zs, IsNt W A0 l0 zs := isNt_arg h0
  have k1 := h1
  have lt1 : ∀ x ∈ p1, x.block < W.heap.size := by obtain ⟨m, hm⟩ := k1; exact DataW.trod_lt m _ _ _ hm
  obtain ⟨A1, l1, c1, rfl⟩ := okWide_slice Try.underlying64 (hval 1 64 v1 rfl rfl)
  obtain ⟨z1, w1⟩ : ∃ zs, IsNt W A1 l1 zs := isNt_arg h1
  clear hA0 hval0
  refine (walk A0 l0 c0 z0 A1 l1 c1 z1 W w0 w1).mono fun e W' ⟨he, bel⟩ => ?_
  subst he
  exact ⟨_, rfl, _, _, _, [], _, [], hW', trodAll_mk1 (shut_bool Try.underlying4 _), (trodAll_cons_mk (Below.trod laidOut (by kernel_rfl) (of_decide_eq_true (by kernel_rfl)) k0 bel lt0) (trodAll_cons_mk (Below.trod laidOut (by kernel_rfl) (of_decide_eq_true (by kernel_rfl)) k1 bel lt1) trodAll_mk0)), rfl, bel.frame _, fun h => by cases h⟩

theorem over : Rows.fnExactSameNotesRow.holds Try.pinned (OpenSpec.ofChange Rows.fnExactSameNotesSpec) :=
  OpenClaim.holds_of_wide 10 Try.f10 rfl rfl rfl rfl rfl rfl rfl ⟨rfl, rfl, rfl, rfl, rfl⟩ rfl rfl rfl rfl rfl (by kernel_rfl) Try.func10 (by kernel_rfl)
    (of_decide_eq_true (by kernel_rfl)) (by unfold Func.isWrapper; first | (rw [if_pos (by decide +kernel)]; kernel_rfl) | (rw [if_neg (by decide +kernel)]; exact ⟨rfl, rfl⟩))
    (fun os started H enc _ => lifted os started H enc)

theorem proved : Rows.FnExactSameNotesSaid := over
#print axioms proved
end Go.Proofs.Ytbcmjifhnpjkoaa.fnExactSameNotes
