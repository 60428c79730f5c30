/- Exact law: the program's PackNotes returns what the reference's returns, for all arguments. No condition. -/
import Derived.Test.YtafdfldmioolfaaPackSW
import Derived.Test.YtafdfldmioolfaaOpenNt
namespace Go.Proofs.Ytafdfldmioolfaa.fnExactPackNotes
open Go.ChangeShapes Go.WideShapes Go.ChangeAt Go.RowKit
open Go.ChangeMaps (open_string shut_string)

set_option maxHeartbeats 1000000 in
theorem walkG (A : Option Addr) (c : Nat) (xs : List Nt) (w : World) (hx : RdNt w w.heap.size A xs) (hf : ∀ x ∈ xs, x.fits) (hm : xs.length ≤ maxLen) :
    Calls Try.prog 7 #[.slice A xs.length c] w fun e w' => e = .returned (.bool true) ∧ Below w.heap.size w w' := by
  have hx2 : ∀ W : World, Below w.heap.size w W → RdNt W W.heap.size A xs := fun W hb => (hx.below hb).more hb.size
  have HX := Lib.hid hx2
  have HF := Lib.hid hf
  clear hx2 hx hf
  obtain ⟨tx, htx⟩ : ∃ t : Nat, xs.length + ntTot xs = t := ⟨_, rfl⟩
  have HZA : Hid (∀ W, Below w.heap.size w W → Calls Try.prog 54 #[.slice A xs.length c, .int .i64 1048576] W fun e w' => e = .returned (.int .i64 (if (tx : Int) ≤ 1048576 then 1048576 - tx else -1)) ∧ Below W.heap.size W w') := fun W hb => by
    have := szNoteS_any A c xs 1048576 W (HX.out W hb) HF.out hm (by omega) (by omega)
    rwa [htx] at this
  have B0 := Lib.hid (Below.refl w.heap.size w)
  by_cases h1 : (tx : Int) ≤ 1048576
  · rw [if_pos h1] at HZA
    have hl0 : 0 ≤ (1048576 : Int) - tx := by omega
    have hX : xs.length ≤ 1048576 ∧ ∀ x ∈ xs, x.terms.length ≤ 1048576 := ⟨by omega, fun x hx => by have := nt_le hx; omega⟩
    have HCA : Hid (∀ W, Below w.heap.size w W → Calls Try.prog 56 #[.slice A xs.length c] W fun e w' => ∃ D f, e = .returned (.slice D xs.length f) ∧ WrNt w' W.heap.size D xs ∧ Below W.heap.size W w') := fun W h => toNoteS_any A c xs W (HX.out W h) hX.2 hX.1
    have HEA : Hid (∀ W C D f g, RdNt W W.heap.size C xs → RdNt W W.heap.size D xs → Calls Try.prog 58 #[.slice C xs.length f, .slice D xs.length g] W fun e w' => e = .returned (.bool true) ∧ Below W.heap.size W w') := fun W C D f g h k => eqNoteS_any C D f g xs W h k (fun x hx => (HF.out x hx).2) hX.1
    have HS : Hid (∀ W C f, RdNt W W.heap.size C xs → Calls Try.prog 55 #[.slice C xs.length f] W fun e w' => e = .returned (.tuple #[.string (pnS xs), .int .i64 (pnC xs)]) ∧ Below W.heap.size W w') := fun W C f h => sPackNotes_any C f xs W h HF.out hm
    have HI : Hid (∀ W C f, RdNt W W.heap.size C xs → Calls Try.prog 57 #[.slice C xs.length f] W fun e w' => e = .returned (.tuple #[.string (pnS xs), .int .i64 (pnC xs)]) ∧ Below W.heap.size W w') := fun W C f h => iPackNotes_any C f xs W h HF.out hm
    generalize pnS xs = R at *
    generalize pnC xs = K at *
    clear hX htx
    go_enter Try.func7, Try.ntmps7
    go_wp2_with fail
    refine (HZA.out _ B0.out).mono ?_
    rintro e w1 ⟨rfl, E1⟩
    go_wp2_with fail
    refine (HCA.out _ E1).mono ?_
    rintro e w3 ⟨C3, c3, rfl, hw3, hb3⟩
    have E3 := ext_trans E1 hb3
    go_wp2_with fail
    refine (HS.out _ _ _ hw3.rd).mono ?_
    rintro e w5 ⟨rfl, hb5⟩
    have E5 := ext_trans E3 hb5
    go_wp2_with fail
    refine (HCA.out _ E5).mono ?_
    rintro e w6 ⟨C6, c6, rfl, hw6, hb6⟩
    have E6 := ext_trans E5 hb6
    go_wp2_with fail
    refine (HI.out _ _ _ hw6.rd).mono ?_
    rintro e w8 ⟨rfl, hb8⟩
    have E8 := ext_trans E6 hb8
    have r6' := hw6.rd.next hb8
    go_wp2_with fail
    refine (HCA.out _ E8).mono ?_
    rintro e w9 ⟨C9, c9, rfl, hw9, hb9⟩
    have E9 := ext_trans E8 hb9
    go_wp2_with fail
    refine (HEA.out _ _ _ _ _ (r6'.next hb9) hw9.rd).mono ?_
    rintro e w10 ⟨rfl, hb10⟩
    go_wp2
    go_ret
    exact ⟨rfl, ext_trans E9 hb10⟩
  · rw [if_neg h1] at HZA
    go_enter Try.func7, Try.ntmps7
    go_wp2_with fail
    refine (HZA.out _ B0.out).mono ?_
    rintro e w1 ⟨rfl, hb1⟩
    go_wp2
    go_ret
    exact ⟨rfl, hb1⟩

theorem walk (A : Option Addr) (l c : Nat) (xs : List Nt) (w : World) (hx : IsNt w A l xs) :
    Calls Try.prog 7 #[.slice A l c] w fun e w' => e = .returned (.bool true) ∧ Below w.heap.size w w' := by
  obtain ⟨rfl, h1, h2, h3⟩ := hx
  exact walkG A c xs w h3 h2 h1

theorem own : ownKnob Try.prog.godebug = none := by kernel_rfl
theorem laidOut : laidOutB Try.prog = true := by kernel_rfl
set_option linter.unusedVariables false in
set_option maxRecDepth 100000 in
theorem lifted (os : Os) (started : os.Started) (H : Type) (enc : TypeId × Value → H) :
    ReturnsInHanded {} Try.checked os 7 .any (Rows.fnExactPackNotesSpec.pre6 enc Try.prog Try.f7 Rows.fnExactPackNotesRow.domain false) (Rows.fnExactPackNotesSpec.post enc Try.prog Try.f7 false true false false) := by
  refine returnsInHanded_of_change (C := Try.checked) own started (by kernel_rfl) Try.func7
    (ChangeSpec.witness6 (enc := enc) (C := Try.checked) false ⟨#[], #[.slice none 0 0], []⟩ 8 (by kernel_rfl) (by kernel_rfl) (by kernel_rfl) (by kernel_rfl)) ?_
  intro W base args ds gs before hval0 hW hcnd _
  have hval : ∀ (j : Nat) t v, Try.f7.params[j]? = some t → args[j]? = some v → Value.okWide Try.prog W .any base t v := hval0
  have hW' := hW
  obtain ⟨p, q, hA0, hV, rfl, hfz, hnd⟩ := hW
  have hA : DataW.TrodAll enc Try.prog W 0 (fun _ => true) true Try.f7.params.toList args.toList ds p := hA0
  rw [Try.params7] at hA hval
  obtain ⟨v0, vs0, d0, ds0, p0, q0, hargs, rfl, rfl, h0, r0⟩ := trodAll_cons hA
  obtain ⟨rfl, rfl, rfl⟩ := trodAll_nil r0
  obtain rfl : args = #[v0] := by cases args; simp_all
  obtain ⟨rfl, rfl⟩ := trodVars_none hV
  have k0 := h0
  have lt0 : ∀ x ∈ p0, x.block < W.heap.size := by obtain ⟨m, hm⟩ := k0; exact DataW.trod_lt m _ _ _ hm
  obtain ⟨A0, l0, c0, rfl⟩ := okWide_slice Try.underlying68 (hval 0 68 v0 rfl rfl)
  obtain ⟨z0, w0⟩ : ∃ zs, IsNt W A0 l0 zs := isNt_arg h0
  clear hA0 hval0
  refine (walk A0 l0 c0 z0 W w0).mono fun e W' ⟨he, bel⟩ => ?_
  subst he
  exact ⟨_, rfl, _, _, _, [], _, [], hW', trodAll_mk1 (shut_bool Try.underlying4 _), (trodAll_cons_mk (Below.trod laidOut (by kernel_rfl) (of_decide_eq_true (by kernel_rfl)) k0 bel lt0) trodAll_mk0), rfl, bel.frame _, fun h => by cases h⟩

theorem jPlace : (Rows.fnExactPackNotesRow.inPlace == Try.prog.inPlace 7) = true := by kernel_rfl
theorem jFollow : (Rows.fnExactPackNotesRow.unfollowed == Try.prog.unfollowed 7) = true := by kernel_rfl
theorem jRecurse : (Rows.fnExactPackNotesRow.recurses == Try.prog.recurses 7) = true := by kernel_rfl
theorem jNamed : (Rows.fnExactPackNotesRow.named == Try.prog.varsNamed 7) = true := by kernel_rfl
theorem joined : joinedFacts Try.prog 7 Try.f7 Rows.fnExactPackNotesSpec Rows.fnExactPackNotesRow = true :=
  joined_of (by kernel_rfl) (by kernel_rfl) (by kernel_rfl) (by kernel_rfl) (by kernel_rfl) jPlace jFollow jRecurse jNamed (by kernel_rfl) (by kernel_rfl) (by kernel_rfl) (by kernel_rfl) (by kernel_rfl) (by kernel_rfl) (by kernel_rfl) (by kernel_rfl) (by kernel_rfl) rfl rfl rfl rfl rfl rfl (by kernel_rfl) (by kernel_rfl) (by kernel_rfl)
theorem over : Rows.fnExactPackNotesRow.holds Try.pinned (OpenSpec.ofChange Rows.fnExactPackNotesSpec) :=
  OpenClaim.holds_of_wide 7 Try.f7 rfl rfl rfl rfl rfl rfl rfl ⟨rfl, rfl, rfl, rfl, rfl⟩ rfl rfl rfl rfl rfl (by kernel_rfl) Try.func7 joined
    (of_decide_eq_true (by kernel_rfl)) (by unfold Func.isWrapper; first | (rw [if_pos (by decide +kernel)]; kernel_rfl) | (rw [if_neg (by decide +kernel)]; exact ⟨rfl, rfl⟩))
    (fun os started H enc _ => lifted os started H enc)

theorem proved : Rows.FnExactPackNotesSaid := over
#print axioms proved
end Go.Proofs.Ytafdfldmioolfaa.fnExactPackNotes
