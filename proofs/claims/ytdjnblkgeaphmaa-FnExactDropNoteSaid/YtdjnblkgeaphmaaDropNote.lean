/- Law: the program's DropNote returns what the reference's returns, for all arguments. No condition. -/
import Derived.Test.YtdjnblkgeaphmaaFrame
import Derived.Test.YtdjnblkgeaphmaaOpenNt
import Derived.Test.YtdjnblkgeaphmaaNlLawP
namespace Go.Proofs.Ytdjnblkgeaphmaa.fnExactDropNote
open Go.ChangeShapes Go.WideShapes Go.ChangeAt Go.RowKit Go.Sort
open Go.ChangeMaps (open_string shut_string)

theorem posN_tot : ∀ xs : List Nt, posN xs xs.length ≤ 7 * xs.length + ntTot xs
  | [] => by simp [posN]
  | x :: xs => by
    have := posN_tot xs
    have e1 : posN (x :: xs) (x :: xs).length = x.wide + posN xs xs.length := by simp [posN]
    have e2 : ntTot (x :: xs) = x.sz + ntTot xs := by simp [ntTot]
    rw [e1, e2, List.length_cons]
    unfold Nt.wide Nt.sz
    omega
set_option maxRecDepth 100000 in
set_option maxHeartbeats 2000000 in
theorem walkG (A : Option Addr) (c : Nat) (xs : List Nt) (s : ByteArray) (w : World) (hx : RdNt w w.heap.size A xs) (hf : ∀ x ∈ xs, x.fits) (hm : xs.length ≤ maxLen) (hs1 : (s.size : Int) ≤ 1048576) :
    Calls Try.prog 4 #[.slice A xs.length c, .string s] w fun e w' => e = .returned (.bool true) ∧ Below w.heap.size w w' := by
  obtain ⟨tx, htx⟩ : ∃ t : Nat, xs.length + ntTot xs = t := ⟨_, rfl⟩
  have HZ : Hid (∀ W, Below w.heap.size w W → Calls Try.prog 10 #[.slice A xs.length c, .int .i64 1048576] W fun e w' => e = .returned (.int .i64 (if (tx : Int) ≤ 1048576 then 1048576 - tx else -1)) ∧ Below W.heap.size W w') := fun W hb => by
    have := szNoteS_any A c xs 1048576 W (hx.next hb) hf hm (by omega) (by omega)
    rwa [htx] at this
  have B0 := Lib.hid (Below.refl w.heap.size w)
  have hs2 : decide (1048576 < (s.size : Int)) = false := decide_eq_false (by omega)
  by_cases h1 : (tx : Int) ≤ 1048576
  · rw [if_pos h1] at HZ
    have hl0 : 0 ≤ (1048576 : Int) - tx := by omega
    have hX : xs.length ≤ 1048576 ∧ ∀ x ∈ xs, x.terms.length ≤ 1048576 := ⟨by omega, fun x hx => by have := nt_le hx; omega⟩
    have hpos : posN xs xs.length ≤ 100000000 := by have := posN_tot xs; omega
    obtain ⟨hy1, hy2⟩ := dnX_bd xs s hX.2
    have hposy : posN (dnX xs s) (dnX xs s).length ≤ 100000000 := by have := posN_bd _ hy2 _ (Nat.le_refl _); omega
    have HTO : Hid (∀ W, Below w.heap.size w W → Calls Try.prog 12 #[.slice A xs.length c] W fun e w' => ∃ D, e = .returned (.slice D xs.length xs.length) ∧ WrNd w' W.heap.size w'.heap.size D xs ∧ Below W.heap.size W w') := fun W h => toNoteS_cap A c xs W (hx.next h) hX.2 hX.1
    have HEQS : Hid (∀ W C D f g, RdNt W W.heap.size C xs → RdNt W W.heap.size D xs → Calls Try.prog 15 #[.slice C xs.length f, .slice D xs.length g] W fun e w' => e = .returned (.bool true) ∧ Below W.heap.size W w') := fun W C D f g h k => eqNoteS_any C D f g xs W h k (fun x hx => (hf x hx).2) hX.1
    have HI : Hid (∀ C W, RdNt W W.heap.size C xs → Calls Try.prog 20 #[.slice C xs.length xs.length, .string s] W (RetNtL W (dnX xs s) (nnC xs s))) := fun C W h => iDropNote_any C _ xs s W h hf hX.1 hX.2
    have HS : Hid (∀ C W, RdNt W W.heap.size C xs → Calls Try.prog 19 #[.slice C xs.length xs.length, .string s] W (RetNtL W (dnX xs s) (nnC xs s))) := fun C W h => sDropNote_any C _ xs s W h hf hX.1 hX.2 (Nat.le_refl _) hm
    generalize dnX xs s = ys at *
    generalize nnC xs s = kc at *
    unfold RetNtL at HI HS
    have HEQY : Hid (∀ W C D f g, RdNt W W.heap.size C ys → RdNt W W.heap.size D ys → Calls Try.prog 15 #[.slice C ys.length f, .slice D ys.length g] W fun e w' => e = .returned (.bool true) ∧ Below W.heap.size W w') := fun W C D f g h k => eqNoteS_any C D f g ys W h k (fun x hx => by have := hy2 x hx; unfold maxLen; omega) (by omega)
    clear hX htx hx hf hm hs1 hy2
    go_enter Try.func4, Try.ntmps4
    go_wp2_with fail
    refine (HZ.out _ B0.out).mono ?_
    rintro e w1 ⟨rfl, hb⟩
    have E := Lib.hid hb
    clear hb B0 HZ
    go_wp2_with fail
    refine (HTO.out _ E.out).mono ?_
    rintro e w2 ⟨A2, rfl, hw2, hb⟩
    have E := Lib.hid (ext_trans E.out hb)
    clear hb
    go_wp2_with fail
    refine (HS.out _ _ hw2.rd).mono ?_
    rintro e w3 ⟨A0, c0, rfl, hw0, hb⟩
    have E := Lib.hid (ext_trans E.out hb)
    have R3 := Lib.hid hw0.rd
    clear hb hw0 hw2 HS
    go_wp2_with fail
    refine (HTO.out _ E.out).mono ?_
    rintro e w4 ⟨A4, rfl, hw4, hb4⟩
    have E3 := E
    have E := Lib.hid (ext_trans E.out hb4)
    have N4 := Lib.hid hw4
    have HB4 := Lib.hid hb4
    clear hw4 hb4
    go_wp2_with fail
    refine (HI.out _ _ N4.out.rd).mono ?_
    rintro e w5 ⟨A1, c1, rfl, hw5, hb5⟩
    have D : Hid (Nl w w3.heap.size w4.heap.size w5.heap.size A0 A1 ys ys w5) := ⟨ext_trans E.out hb5, (R3.out.below HB4.out).below (hb5.mono HB4.out.size), hw5, E3.out.size, HB4.out.size, hb5.size⟩
    have N5 := Lib.hid (N4.out.next hb5)
    clear hw5 hb5 N4 HB4 E E3 R3
    go_wp2_with fail
    refine (HEQY.out _ _ _ _ _ D.out.rg D.out.rr).mono ?_
    rintro e w6 ⟨rfl, hb⟩
    have N5 := Lib.hid (N5.out.next (hb.mono N5.out.1))
    have D := Lib.hid (D.out.next hb)
    clear hb
    go_wp2_with fail
    refine (HTO.out _ D.out.a).mono ?_
    rintro e w7 ⟨A7, rfl, hw7, hb⟩
    have N5 := Lib.hid (N5.out.next (hb.mono N5.out.1))
    have D := Lib.hid (D.out.next hb)
    clear hb
    go_wp2_with fail
    refine (HEQS.out _ _ _ _ _ (N5.out.rd.more N5.out.1) (hw7.rd.more hw7.1)).mono ?_
    rintro e w8 ⟨rfl, hb⟩
    have N5 := Lib.hid (N5.out.next (hb.mono N5.out.1))
    have D := Lib.hid (D.out.next hb)
    clear hb hw7 HEQS
    go_wp2_with fail
    refine (markNoteS_any A4 xs.length xs w3.heap.size w4.heap.size 1 w8 N5.out hpos (by omega) (by omega)).mono ?_
    rintro e w9 ⟨rfl, _, hb, hs, hfar⟩
    have D := Lib.hid (D.out.marked hb hs hfar)
    clear hb hs hfar N5
    have hk0 : ¬ ((1 : Int) + (posN xs xs.length : Int) < 0) := by omega
    go_wp2_with fail
    refine (HEQY.out _ _ _ _ _ D.out.rg D.out.rr).mono ?_
    rintro e w10 ⟨rfl, hb⟩
    have D := Lib.hid (D.out.next hb)
    clear hb hk0 hpos
    go_wp2_with fail
    refine (markNoteS_any A1 c1 ys w4.heap.size w5.heap.size 1 w10 D.out.g hposy (by omega) (by omega)).mono ?_
    rintro e w11 ⟨rfl, hg, hb, hs, _⟩
    have D := Lib.hid (D.out.remark hg hb hs)
    clear hg hb hs
    go_wp2_with fail
    refine (heldNoteS_any A1 c1 ys 1 w11 D.out.rg hposy (by omega) (by omega)).mono ?_
    rintro e w12 ⟨rfl, hb⟩
    have D := Lib.hid (D.out.next hb)
    clear hb
    have hn0 : ¬ ((1 : Int) + (posN ys ys.length : Int) < 0) := by omega
    go_wp2_with fail
    refine (HTO.out _ D.out.a).mono ?_
    rintro e w13 ⟨A13, rfl, hw13, hb⟩
    have D := Lib.hid (D.out.next hb)
    clear hb
    go_wp2_with fail
    refine (HI.out _ _ (hw13.rd.more hw13.1)).mono ?_
    rintro e w14 ⟨A14, c14, rfl, hw14, hb⟩
    have D := Lib.hid (D.out.next hb)
    clear hb hw13 HTO HI
    go_wp2_with fail
    refine (HEQY.out _ _ _ _ _ (hw14.rd.more hw14.1) D.out.rr).mono ?_
    rintro e w15 ⟨rfl, hb⟩
    have D := Lib.hid (D.out.next hb)
    clear hb hw14 HEQY
    go_wp2_with fail
    refine (heldNoteS_any A1 c1 ys 1 w15 D.out.rg hposy (by omega) (by omega)).mono ?_
    rintro e w16 ⟨rfl, hb⟩
    have D := Lib.hid (D.out.next hb)
    clear hb
    go_wp2
    go_ret
    exact ⟨rfl, D.out.a⟩
  · rw [if_neg h1] at HZ
    go_enter Try.func4, Try.ntmps4
    go_wp2_with fail
    refine (HZ.out _ B0.out).mono ?_
    rintro e w1 ⟨rfl, hb1⟩
    go_wp2
    go_ret
    exact ⟨rfl, hb1⟩

theorem walk (A : Option Addr) (l c : Nat) (xs : List Nt) (s : ByteArray) (w : World) (hx : IsNt w A l xs) (_ : s.size ≤ maxLen) :
    Calls Try.prog 4 #[.slice A l c, .string s] w fun e w' => e = .returned (.bool true) ∧ Below w.heap.size w w' := by
  obtain ⟨rfl, h1, h2, h3⟩ := hx
  by_cases hs : (s.size : Int) ≤ 1048576
  · exact walkG A c xs s w h3 h2 h1 hs
  · have hs2 : decide (1048576 < (s.size : Int)) = true := decide_eq_true (by omega)
    clear h1 h2 h3
    go_enter Try.func4, Try.ntmps4
    go_wp2
    go_ret
    exact ⟨rfl, Below.refl _ _⟩

theorem own : ownKnob Try.prog.godebug = none := by kernel_rfl
theorem laidOut : laidOutB Try.prog = true := by kernel_rfl
set_option linter.unusedVariables false in
set_option maxRecDepth 100000 in
theorem lifted (os : Os) (started : os.Started) (H : Type) (enc : TypeId × Value → H) :
    ReturnsInHanded {} Try.checked os 4 .any (Rows.fnExactDropNoteSpec.pre6 enc Try.prog Try.f4 Rows.fnExactDropNoteRow.domain false) (Rows.fnExactDropNoteSpec.post enc Try.prog Try.f4 false true false false) := by
  refine returnsInHanded_of_change (C := Try.checked) own started (by kernel_rfl) Try.func4
    (ChangeSpec.witness6 (enc := enc) (C := Try.checked) false ⟨#[], #[.slice none 0 0, .string ByteArray.empty], []⟩ 8 (by kernel_rfl) (by kernel_rfl) (by kernel_rfl) (by kernel_rfl)) ?_
  intro W base args ds gs before hval0 hW hcnd _
  have hval : ∀ (j : Nat) t v, Try.f4.params[j]? = some t → args[j]? = some v → Value.okWide Try.prog W .any base t v := hval0
  have hW' := hW
  obtain ⟨p, q, hA0, hV, rfl, hfz, hnd⟩ := hW
  have hA : DataW.TrodAll enc Try.prog W 0 (fun _ => true) true Try.f4.params.toList args.toList ds p := hA0
  rw [Try.params4] at hA hval
  obtain ⟨v0, vs0, d0, ds0, p0, q0, hargs, rfl, rfl, h0, r0⟩ := trodAll_cons hA
  obtain ⟨v1, vs1, d1, ds1, p1, q1, rfl, rfl, rfl, h1, r1⟩ := trodAll_cons r0
  obtain ⟨rfl, rfl, rfl⟩ := trodAll_nil r1
  obtain rfl : args = #[v0, v1] := by cases args; simp_all
  obtain ⟨rfl, rfl⟩ := trodVars_none hV
  have k0 := h0
  have lt0 : ∀ x ∈ p0, x.block < W.heap.size := by obtain ⟨m, hm⟩ := k0; exact DataW.trod_lt m _ _ _ hm
  obtain ⟨A0, l0, c0, rfl⟩ := okWide_slice Try.underlying22 (hval 0 22 v0 rfl rfl)
  obtain ⟨z0, w0⟩ : ∃ zs, IsNt W A0 l0 zs := isNt_arg h0
  have k1 := h1
  have lt1 : ∀ x ∈ p1, x.block < W.heap.size := by obtain ⟨m, hm⟩ := k1; exact DataW.trod_lt m _ _ _ hm
  obtain ⟨a1, rfl, rfl, rfl, w1⟩ := open_string Try.underlying9 (hval 1 9 v1 rfl rfl) h1
  clear hA0 hval0
  refine (walk A0 l0 c0 z0 a1 W w0 w1).mono fun e W' ⟨he, bel⟩ => ?_
  subst he
  exact ⟨_, rfl, _, _, _, [], _, [], hW', trodAll_mk1 (shut_bool Try.underlying4 _), (trodAll_cons_mk (Below.trod laidOut (by kernel_rfl) (of_decide_eq_true (by kernel_rfl)) k0 bel lt0) (trodAll_cons_mk (Below.trod laidOut (by kernel_rfl) (of_decide_eq_true (by kernel_rfl)) k1 bel lt1) trodAll_mk0)), rfl, bel.frame _, fun h => by cases h⟩

theorem jPlace : (Rows.fnExactDropNoteRow.inPlace == Try.prog.inPlace 4) = true := by kernel_rfl
theorem jFollow : (Rows.fnExactDropNoteRow.unfollowed == Try.prog.unfollowed 4) = true := by kernel_rfl
theorem jRecurse : (Rows.fnExactDropNoteRow.recurses == Try.prog.recurses 4) = true := by kernel_rfl
theorem jNamed : (Rows.fnExactDropNoteRow.named == Try.prog.varsNamed 4) = true := by kernel_rfl
theorem joined : joinedFacts Try.prog 4 Try.f4 Rows.fnExactDropNoteSpec Rows.fnExactDropNoteRow = true :=
  joined_of (by kernel_rfl) (by kernel_rfl) (by kernel_rfl) (by kernel_rfl) (by kernel_rfl) jPlace jFollow jRecurse jNamed (by kernel_rfl) (by kernel_rfl) (by kernel_rfl) (by kernel_rfl) (by kernel_rfl) (by kernel_rfl) (by kernel_rfl) (by kernel_rfl) (by kernel_rfl) rfl rfl rfl rfl rfl rfl (by kernel_rfl) (by kernel_rfl) (by kernel_rfl)
theorem over : Rows.fnExactDropNoteRow.holds Try.pinned (OpenSpec.ofChange Rows.fnExactDropNoteSpec) :=
  OpenClaim.holds_of_wide 4 Try.f4 rfl rfl rfl rfl rfl rfl rfl ⟨rfl, rfl, rfl, rfl, rfl⟩ rfl rfl rfl rfl rfl (by kernel_rfl) Try.func4 joined
    (of_decide_eq_true (by kernel_rfl)) (by unfold Func.isWrapper; first | (rw [if_pos (by decide +kernel)]; kernel_rfl) | (rw [if_neg (by decide +kernel)]; exact ⟨rfl, rfl⟩))
    (fun os started H enc _ => lifted os started H enc)

theorem proved : Rows.FnExactDropNoteSaid := over
#print axioms proved
end Go.Proofs.Ytdjnblkgeaphmaa.fnExactDropNote
