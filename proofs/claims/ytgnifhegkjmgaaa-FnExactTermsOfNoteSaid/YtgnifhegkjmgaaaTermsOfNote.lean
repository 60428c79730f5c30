/- Law: the program's TermsOfNote returns what the reference's returns, for all arguments. No condition. -/
import Derived.Test.YtgnifhegkjmgaaaFrame
import Derived.Test.YtgnifhegkjmgaaaOpenNt1
import Derived.Test.YtgnifhegkjmgaaaNtLawW
namespace Go.Proofs.Ytgnifhegkjmgaaa.fnExactTermsOfNote
open Go.ChangeShapes Go.WideShapes Go.ChangeAt Go.RowKit Go.Sort
open Go.ChangeMaps (open_string shut_string)

set_option maxRecDepth 100000 in
set_option maxHeartbeats 4000000 in
theorem walkG (x : Nt) (T : Option Addr) (c : Nat) (count : Int) (w : World) (hx : RdT w w.heap.size T c x.terms) (hf : x.fits) :
    Calls Try.prog 9 #[ntV x.name x.kind x.num x.den T x.terms.length c x.sp x.sd x.sq, .int .i64 count] w fun e w' => e = .returned (.bool true) ∧ Below w.heap.size w w' := by
  have HZ : Hid (∀ W : World, Calls Try.prog 64 #[ntV x.name x.kind x.num x.den T x.terms.length c x.sp x.sd x.sq, .int .i64 1048576] W fun e w' => e = .returned (.int .i64 (if (x.sz : Int) ≤ 1048576 then 1048576 - x.sz else -1)) ∧ Below W.heap.size W w') := fun W => szNote_any x T c 1048576 W hf (by omega) (by omega)
  by_cases hsz : (x.sz : Int) ≤ 1048576
  · rw [if_pos hsz] at HZ
    have hsm : x.terms.length ≤ 1048576 := by unfold Nt.sz at hsz; omega
    have HI : Hid (∀ (T : Option Addr) (c : Nat) (W : World), RdT W W.heap.size T c x.terms → Calls Try.prog 67 #[ntV x.name x.kind x.num x.den T x.terms.length c x.sp x.sd x.sq, .int .i64 count] W (RetInts W (tnX x count) (tnC x count))) := fun T c W h => iTermsOfNote_any x T c count W h hf
    have HS : Hid (∀ (T : Option Addr) (c : Nat) (W : World), RdT W W.heap.size T c x.terms → Calls Try.prog 65 #[ntV x.name x.kind x.num x.den T x.terms.length c x.sp x.sd x.sq, .int .i64 count] W (RetInts W (tnX x count) (tnC x count))) := fun T c W h => sTermsOfNote_any x T c count W h hf
    have hxl : (tnX x count).length ≤ 1000000 := by
      unfold tnX
      split
      · rename_i h0
        have := fstF_len (tmS (ntSo x)) count.toNat 0
        have : count.toNat ≤ 200 := by
          unfold tnC at h0
          split at h0
          · split at h0
            · rename_i h1; have := inR_true.1 h1; omega
            · omega
          · omega
        omega
      · simp
    have HTO : Hid (∀ W : World, Below w.heap.size w W → Calls Try.prog 66 #[ntV x.name x.kind x.num x.den T x.terms.length c x.sp x.sd x.sq] W fun e w' => ∃ B d, e = .returned (ntV x.name x.kind x.num x.den B x.terms.length d x.sp x.sd x.sq) ∧ WrT w' W.heap.size B d x.terms ∧ Below W.heap.size W w') := fun W hb => toNote_any x T c W (hx.next hb).1 hsm
    have HEQ : Hid (∀ (A B : Option Addr) (c d : Nat) (W : World), Rd (Value.int .i64) W W.heap.size A x.terms → Rd (Value.int .i64) W W.heap.size B x.terms → Calls Try.prog 56 #[ntV x.name x.kind x.num x.den A x.terms.length c x.sp x.sd x.sq, ntV x.name x.kind x.num x.den B x.terms.length d x.sp x.sd x.sq] W fun e w' => e = .returned (.bool true) ∧ Below W.heap.size W w') := fun A B c d W h1 h2 => eqNote_any x A B c d W h1 h2 hf.2
    have hz : 0 ≤ 1048576 - (x.sz : Int) := by omega
    clear hsz hx
    unfold RetInts at HI HS
    unfold ntV at *
    generalize (x.sz : Int) = z at *
    generalize tnX x count = xs at *
    generalize tnC x count = v at *
    go_enter Try.func9, Try.ntmps9
    go_wp2_with fail
    have E0 := Lib.hid (ext1 w (.cells #[.string x.name, .int .i64 x.kind, .int .i64 x.num, .int .i64 x.den, .slice T x.terms.length c, .int .i64 x.sp, .int .i64 x.sd, .int .i64 x.sq] 88))
    refine (HZ.out _).mono ?_
    rintro e w1 ⟨rfl, hb1⟩
    have E1 := Lib.hid (ext_trans E0.out hb1)
    obtain ⟨hc1, hf1⟩ := bcell hb1
    have hy1 := hb1.size
    (try simp at hy1)
    have hz1 : w.heap.size < w1.heap.size := by omega
    go_wp2_with fail
    refine (HTO.out _ E1.out).mono ?_
    rintro e w2 ⟨A, a, rfl, hw2, hb2⟩
    have E2 := Lib.hid (ext_trans E1.out hb2)
    obtain ⟨hc2, hf2⟩ := bcell hb2
    have hy2 := hb2.size
    have hz2 : w.heap.size < w2.heap.size := by omega
    go_wp2_with fail
    refine (HS.out _ _ _ hw2.rd).mono ?_
    rintro e w3 ⟨As, cs, rfl, hws, hb3⟩
    have E3 := Lib.hid (ext_trans E2.out hb3)
    obtain ⟨hc3, hf3⟩ := bcell hb3
    have hy3 := hb3.size
    have hz3 : w.heap.size < w3.heap.size := by omega
    go_wp2_with fail
    refine (HTO.out _ E3.out).mono ?_
    rintro e w4 ⟨A4, a4, rfl, hw4, hb4⟩
    have E4 := Lib.hid (ext_trans E3.out hb4)
    obtain ⟨hc4, hf4⟩ := bcell hb4
    have hy4 := hb4.size
    have hz4 : w.heap.size < w4.heap.size := by omega
    go_wp2_with fail
    have HX0 : BoxV w.heap.size (ntC x T c) w4 := (BoxV.new w #[.string x.name, .int .i64 x.kind, .int .i64 x.num, .int .i64 x.den, .slice T x.terms.length c, .int .i64 x.sp, .int .i64 x.sd, .int .i64 x.sq] 88).next (hb1.trans ((hb2.mono (by simp; omega)).trans ((hb3.mono (by simp; omega)).trans (hb4.mono (by simp; omega)))))
    have HVV := Lib.hid hw4
    have hy34 : w3.heap.size ≤ w4.heap.size := hy4
    have hz3' : w.heap.size < w3.heap.size := hz3
    refine (HI.out _ _ _ (hw4.rd.next (ext1 w4 (.cells #[.string x.name, .int .i64 x.kind, .int .i64 x.num, .int .i64 x.den, .slice A4 x.terms.length a4, .int .i64 x.sp, .int .i64 x.sd, .int .i64 x.sq] 73)))).mono ?_
    rintro e w5 ⟨Ag, cg5, rfl, hwg, hb5⟩
    have hy5 : w4.heap.size + 1 ≤ w5.heap.size := by simpa using hb5.size
    have HWG : Wr (Value.int .i64) w5 (w4.heap.size + 1) Ag xs := by simpa using hwg
    have DA : Hid (NtA w w3.heap.size w4.heap.size (ntC x T c) (ntC x A4 a4) A4 a4 x.terms As Ag xs xs w5) :=
      ⟨⟨(HX0.alloc _).next hb5, ((hws.rd.below hb4).below ((ext1 w4 (.cells #[.string x.name, .int .i64 x.kind, .int .i64 x.num, .int .i64 x.den, .slice A4 x.terms.length a4, .int .i64 x.sp, .int .i64 x.sd, .int .i64 x.sq] 73)).mono hy4)).below (hb5.mono (by simp; omega)), HWG, ext_trans (ext_alloc E4.out _) hb5, hz3, hy4, by omega⟩, (BoxV.new w4 #[.string x.name, .int .i64 x.kind, .int .i64 x.num, .int .i64 x.den, .slice A4 x.terms.length a4, .int .i64 x.sp, .int .i64 x.sd, .int .i64 x.sq] 73).next hb5, (hw4.below (ext1 _ _)).below hb5⟩
    clear HWG hwg hb5 HX0 hc1 hc2 hc3 hc4 hf1 hf2 hf3 hf4 hw2 hw4 HS HZ hws hb1 hb2 hb3 hb4 E0 E1 E2 E3 E4 hy1 hy2 hy3 hy4 hz1 hz2 hz3 hz4
    have hq : ∀ (B : Option Addr) (d : Nat) (W : World), Rd (Value.int .i64) W W.heap.size B xs → Rd (Value.int .i64) W W.heap.size As xs → Calls Try.prog 31 #[.slice B xs.length d, .slice As xs.length cs] W fun e w' => e = .returned (.bool true) ∧ Below W.heap.size W w' := fun B d W h1 h2 => by
      have := eqInt64S_any B As d cs xs xs W h1 h2 (by unfold maxLen; omega) (by unfold maxLen; omega)
      simpa using this
    have HQ := Lib.hid hq
    clear hq
    go_wp2_with fail
    refine (HQ.out _ _ _ DA.out.1.wg.rd DA.out.1.rds).mono ?_
    rintro e w6 ⟨rfl, hb6⟩
    have DA := Lib.hid (DA.out.next hb6)
    clear hb6
    have HCK : Hid (∀ W : World, Below w6.heap.size w6 W → (W.cell? ⟨w.heap.size, 0, none⟩ = some (.string x.name) ∧ W.cell? ⟨w.heap.size, 1, none⟩ = some (.int .i64 x.kind) ∧ W.cell? ⟨w.heap.size, 2, none⟩ = some (.int .i64 x.num) ∧ W.cell? ⟨w.heap.size, 3, none⟩ = some (.int .i64 x.den) ∧ W.cell? ⟨w.heap.size, 4, none⟩ = some (.slice T x.terms.length c) ∧ W.cell? ⟨w.heap.size, 5, none⟩ = some (.int .i64 x.sp) ∧ W.cell? ⟨w.heap.size, 6, none⟩ = some (.int .i64 x.sd) ∧ W.cell? ⟨w.heap.size, 7, none⟩ = some (.int .i64 x.sq)) ∧ (W.cell? ⟨w4.heap.size, 0, none⟩ = some (.string x.name) ∧ W.cell? ⟨w4.heap.size, 1, none⟩ = some (.int .i64 x.kind) ∧ W.cell? ⟨w4.heap.size, 2, none⟩ = some (.int .i64 x.num) ∧ W.cell? ⟨w4.heap.size, 3, none⟩ = some (.int .i64 x.den) ∧ W.cell? ⟨w4.heap.size, 4, none⟩ = some (.slice A4 x.terms.length a4) ∧ W.cell? ⟨w4.heap.size, 5, none⟩ = some (.int .i64 x.sp) ∧ W.cell? ⟨w4.heap.size, 6, none⟩ = some (.int .i64 x.sd) ∧ W.cell? ⟨w4.heap.size, 7, none⟩ = some (.int .i64 x.sq))) := fun W hb => ⟨⟨(DA.out.next hb).1.x0.at 0 _ rfl, (DA.out.next hb).1.x0.at 1 _ rfl, (DA.out.next hb).1.x0.at 2 _ rfl, (DA.out.next hb).1.x0.at 3 _ rfl, (DA.out.next hb).1.x0.at 4 _ rfl, (DA.out.next hb).1.x0.at 5 _ rfl, (DA.out.next hb).1.x0.at 6 _ rfl, (DA.out.next hb).1.x0.at 7 _ rfl⟩, ⟨(DA.out.next hb).2.1.at 0 _ rfl, (DA.out.next hb).2.1.at 1 _ rfl, (DA.out.next hb).2.1.at 2 _ rfl, (DA.out.next hb).2.1.at 3 _ rfl, (DA.out.next hb).2.1.at 4 _ rfl, (DA.out.next hb).2.1.at 5 _ rfl, (DA.out.next hb).2.1.at 6 _ rfl, (DA.out.next hb).2.1.at 7 _ rfl⟩⟩
    have HY : Hid (∀ W : World, Below w6.heap.size w6 W → Rd (Value.int .i64) W W.heap.size A4 x.terms) := fun W hb => (DA.out.next hb).2.2.rd.1
    have HTO6 : Hid (∀ W : World, Below w6.heap.size w6 W → Calls Try.prog 66 #[.agg #[.string x.name, .int .i64 x.kind, .int .i64 x.num, .int .i64 x.den, .slice T x.terms.length c, .int .i64 x.sp, .int .i64 x.sd, .int .i64 x.sq]] W fun e w' => ∃ B d, e = .returned (.agg #[.string x.name, .int .i64 x.kind, .int .i64 x.num, .int .i64 x.den, .slice B x.terms.length d, .int .i64 x.sp, .int .i64 x.sd, .int .i64 x.sq]) ∧ WrT w' W.heap.size B d x.terms ∧ Below W.heap.size W w') := fun W hb => HTO.out W (DA.out.next hb).1.bel
    go_wp2_with fail
    go_region_held3 (fun W => (W.cell? ⟨w.heap.size, 0, none⟩ = some (.string x.name) ∧ W.cell? ⟨w.heap.size, 1, none⟩ = some (.int .i64 x.kind) ∧ W.cell? ⟨w.heap.size, 2, none⟩ = some (.int .i64 x.num) ∧ W.cell? ⟨w.heap.size, 3, none⟩ = some (.int .i64 x.den) ∧ W.cell? ⟨w.heap.size, 4, none⟩ = some (.slice T x.terms.length c) ∧ W.cell? ⟨w.heap.size, 5, none⟩ = some (.int .i64 x.sp) ∧ W.cell? ⟨w.heap.size, 6, none⟩ = some (.int .i64 x.sd) ∧ W.cell? ⟨w.heap.size, 7, none⟩ = some (.int .i64 x.sq)) ∧ (W.cell? ⟨w4.heap.size, 0, none⟩ = some (.string x.name) ∧ W.cell? ⟨w4.heap.size, 1, none⟩ = some (.int .i64 x.kind) ∧ W.cell? ⟨w4.heap.size, 2, none⟩ = some (.int .i64 x.num) ∧ W.cell? ⟨w4.heap.size, 3, none⟩ = some (.int .i64 x.den) ∧ W.cell? ⟨w4.heap.size, 4, none⟩ = some (.slice A4 x.terms.length a4) ∧ W.cell? ⟨w4.heap.size, 5, none⟩ = some (.int .i64 x.sp) ∧ W.cell? ⟨w4.heap.size, 6, none⟩ = some (.int .i64 x.sd) ∧ W.cell? ⟨w4.heap.size, 7, none⟩ = some (.int .i64 x.sq)))
      (exact HCK.out _ (by repeat (first | exact Below.refl _ _ | assumption | refine ext_alloc ?_ _ | refine ext_drew ?_ | refine ext_trans ?_ (by assumption))))
      (first | (go_at_call 66; (with_reducible refine (HTO6.out _ (ext_drew (Below.refl _ _))).mono ?_); rintro e w7 ⟨A6, a6, rfl, hw7, hb7⟩; have hr7 := hw7.rd.1) | (go_at_call 56; (with_reducible refine (HEQ.out _ _ _ _ _ (HY.out _ (ext_trans (ext_drew (Below.refl _ _)) hb7)) hr7).mono ?_); rintro e w8 ⟨rfl, hb8⟩))
    have DA := Lib.hid (DA.out.next (ext_trans (ext_trans (ext_drew (Below.refl _ _)) hb7) hb8))
    clear hb7 hb8 hw7 hr7 HTO6 HY HCK HEQ
    have y0 := DA.out.2.1.at 0 _ rfl
    have y1 := DA.out.2.1.at 1 _ rfl
    have y2 := DA.out.2.1.at 2 _ rfl
    have y3 := DA.out.2.1.at 3 _ rfl
    have y4 := DA.out.2.1.at 4 _ rfl
    have y5 := DA.out.2.1.at 5 _ rfl
    have y6 := DA.out.2.1.at 6 _ rfl
    have y7 := DA.out.2.1.at 7 _ rfl
    go_wp2_with fail
    refine (markNote_any x A4 a4 w3.heap.size w4.heap.size w4 w8 HVV.out (Nat.le_refl _) DA.out.2.2 hsm (by have := DA.out.1.l5; omega) (by have := DA.out.1.l5; omega)).mono ?_
    rintro e w9 ⟨k, rfl, hk, hb9, hs9, hf9⟩
    have DB := Lib.hid (DA.out.1.marked hb9 hs9 hf9)
    clear y0 y1 y2 y3 y4 y5 y6 y7 hb9 hs9 hf9 DA HVV
    have hk0 : ¬ ((k : Int) < 0) := by omega
    go_wp2_with fail
    refine (HQ.out _ _ _ DB.out.wg.rd DB.out.rds).mono ?_
    rintro e w10 ⟨rfl, hb10⟩
    have DB := Lib.hid (DB.out.next hb10)
    clear hb10 hk0
    go_wp2_with fail
    refine (markInt64S_any Ag cg5 xs (w4.heap.size + 1) 1 w10 DB.out.wg (by omega) (by omega) (by omega)).mono ?_
    rintro e w11 ⟨rfl, hx11, hb11, hs11, _⟩
    have DB := Lib.hid (DB.out.remark hx11 hb11 hs11)
    clear hx11 hb11 hs11
    have hn0 : ¬ ((1 : Int) + (xs.length : Int) < 0) := by omega
    have hn1 : ((1 : Int) + (xs.length : Int) != 1 + (xs.length : Int)) = false := by simp
    go_wp2_with fail
    refine (heldInt64S_any Ag cg5 xs.length 1 w11 DB.out.wg.rd (by omega) (by omega) (by omega)).mono ?_
    rintro e w' ⟨rfl, rfl⟩
    have x0 := DB.out.x0.at 0 _ rfl
    have x1 := DB.out.x0.at 1 _ rfl
    have x2 := DB.out.x0.at 2 _ rfl
    have x3 := DB.out.x0.at 3 _ rfl
    have x4 := DB.out.x0.at 4 _ rfl
    have x5 := DB.out.x0.at 5 _ rfl
    have x6 := DB.out.x0.at 6 _ rfl
    have x7 := DB.out.x0.at 7 _ rfl
    go_wp2_with fail
    refine (HTO.out _ DB.out.bel).mono ?_
    rintro e w12 ⟨A12, a12, rfl, hw12, hb12⟩
    have DB := Lib.hid (DB.out.next hb12)
    clear x0 x1 x2 x3 x4 x5 x6 x7 hb12
    go_wp2_with fail
    refine (HI.out _ _ _ hw12.rd).mono ?_
    rintro e w13 ⟨Ah, ch13, rfl, hwh, hb13⟩
    have DB := Lib.hid (DB.out.next hb13)
    clear hb13 hw12
    go_wp2_with fail
    refine (HQ.out _ _ _ hwh.rd DB.out.rds).mono ?_
    rintro e w14 ⟨rfl, hb14⟩
    have DB := Lib.hid (DB.out.next hb14)
    clear hb14 hwh
    go_wp2_with fail
    refine (heldInt64S_any Ag cg5 xs.length 1 w14 DB.out.wg.rd (by omega) (by omega) (by omega)).mono ?_
    rintro e w' ⟨rfl, rfl⟩
    go_wp2
    go_ret
    exact ⟨rfl, DB.out.bel⟩
  · rw [if_neg hsz] at HZ
    unfold ntV at *
    go_enter Try.func9, Try.ntmps9
    go_wp2_with fail
    refine (HZ.out _).mono ?_
    rintro e w1 ⟨rfl, hb1⟩
    go_wp2
    go_ret
    exact ⟨rfl, ext_trans (ext1 _ _) hb1⟩
theorem walk (y : Nt) (T : Option Addr) (c : Nat) (count : Int) (w : World) (h : IsNt1 w y T c) (_ : (Lit.int .i64 count).wf = true) :
    Calls Try.prog 9 #[ntV y.name y.kind y.num y.den T y.terms.length c y.sp y.sd y.sq, .int .i64 count] w fun e w' => e = .returned (.bool true) ∧ Below w.heap.size w w' := walkG y T c count w h.2 h.1

theorem own : ownKnob Try.prog.godebug = none := by kernel_rfl
theorem laidOut : laidOutB Try.prog = true := by kernel_rfl
set_option linter.unusedVariables false in
set_option maxRecDepth 100000 in
theorem lifted (os : Os) (started : os.Started) (H : Type) (enc : TypeId × Value → H) :
    ReturnsInHanded {} Try.checked os 9 .any (Rows.fnExactTermsOfNoteSpec.pre6 enc Try.prog Try.f9 Rows.fnExactTermsOfNoteRow.domain false) (Rows.fnExactTermsOfNoteSpec.post enc Try.prog Try.f9 false true false false) := by
  refine returnsInHanded_of_change (C := Try.checked) own started (by kernel_rfl) Try.func9
    (ChangeSpec.witness6 (enc := enc) (C := Try.checked) false ⟨#[], #[.agg #[.string ByteArray.empty, .int .i64 0, .int .i64 0, .int .i64 0, .slice none 0 0, .int .i64 0, .int .i64 0, .int .i64 0], .int .i64 0], []⟩ 8 (by kernel_rfl) (by kernel_rfl) (by kernel_rfl) (by kernel_rfl)) ?_
  intro W base args ds gs before hval0 hW hcnd _
  have hval : ∀ (j : Nat) t v, Try.f9.params[j]? = some t → args[j]? = some v → Value.okWide Try.prog W .any base t v := hval0
  have hW' := hW
  obtain ⟨p, q, hA0, hV, rfl, hfz, hnd⟩ := hW
  have hA : DataW.TrodAll enc Try.prog W 0 (fun _ => true) true Try.f9.params.toList args.toList ds p := hA0
  rw [Try.params9] at hA hval
  obtain ⟨v0, vs0, d0, ds0, p0, q0, hargs, rfl, rfl, h0, r0⟩ := trodAll_cons hA
  obtain ⟨v1, vs1, d1, ds1, p1, q1, rfl, rfl, rfl, h1, r1⟩ := trodAll_cons r0
  obtain ⟨rfl, rfl, rfl⟩ := trodAll_nil r1
  obtain rfl : args = #[v0, v1] := by cases args; simp_all
  obtain ⟨rfl, rfl⟩ := trodVars_none hV
  have k0 := h0
  have lt0 : ∀ x ∈ p0, x.block < W.heap.size := by obtain ⟨m, hm⟩ := k0; exact DataW.trod_lt m _ _ _ hm
  obtain ⟨y0, T0, c0, rfl, w0⟩ := open_note (hval 0 88 v0 rfl rfl) h0
  have k1 := h1
  have lt1 : ∀ x ∈ p1, x.block < W.heap.size := by obtain ⟨m, hm⟩ := k1; exact DataW.trod_lt m _ _ _ hm
  obtain ⟨a1, rfl, rfl, rfl, w1⟩ := open_int Try.underlying2 (hval 1 2 v1 rfl rfl) h1
  clear hA0 hval0
  refine (walk y0 T0 c0 a1 W w0 w1).mono fun e W' ⟨he, bel⟩ => ?_
  subst he
  exact ⟨_, rfl, _, _, _, [], _, [], hW', trodAll_mk1 (shut_bool Try.underlying4 _), (trodAll_cons_mk (Below.trod laidOut (by kernel_rfl) (of_decide_eq_true (by kernel_rfl)) k0 bel lt0) (trodAll_cons_mk (Below.trod laidOut (by kernel_rfl) (of_decide_eq_true (by kernel_rfl)) k1 bel lt1) trodAll_mk0)), rfl, bel.frame _, fun h => by cases h⟩

theorem jPlace : (Rows.fnExactTermsOfNoteRow.inPlace == Try.prog.inPlace 9) = true := by kernel_rfl
theorem jFollow : (Rows.fnExactTermsOfNoteRow.unfollowed == Try.prog.unfollowed 9) = true := by kernel_rfl
theorem jRecurse : (Rows.fnExactTermsOfNoteRow.recurses == Try.prog.recurses 9) = true := by kernel_rfl
theorem jNamed : (Rows.fnExactTermsOfNoteRow.named == Try.prog.varsNamed 9) = true := by kernel_rfl
theorem joined : joinedFacts Try.prog 9 Try.f9 Rows.fnExactTermsOfNoteSpec Rows.fnExactTermsOfNoteRow = true :=
  joined_of (by kernel_rfl) (by kernel_rfl) (by kernel_rfl) (by kernel_rfl) (by kernel_rfl) jPlace jFollow jRecurse jNamed (by kernel_rfl) (by kernel_rfl) (by kernel_rfl) (by kernel_rfl) (by kernel_rfl) (by kernel_rfl) (by kernel_rfl) (by kernel_rfl) (by kernel_rfl) rfl rfl rfl rfl rfl rfl (by kernel_rfl) (by kernel_rfl) (by kernel_rfl)
theorem over : Rows.fnExactTermsOfNoteRow.holds Try.pinned (OpenSpec.ofChange Rows.fnExactTermsOfNoteSpec) :=
  OpenClaim.holds_of_wide 9 Try.f9 rfl rfl rfl rfl rfl rfl rfl ⟨rfl, rfl, rfl, rfl, rfl⟩ rfl rfl rfl rfl rfl (by kernel_rfl) Try.func9 joined
    (of_decide_eq_true (by kernel_rfl)) (by unfold Func.isWrapper; first | (rw [if_pos (by decide +kernel)]; kernel_rfl) | (rw [if_neg (by decide +kernel)]; exact ⟨rfl, rfl⟩))
    (fun os started H enc _ => lifted os started H enc)

theorem proved : Rows.FnExactTermsOfNoteSaid := over
#print axioms proved
end Go.Proofs.Ytgnifhegkjmgaaa.fnExactTermsOfNote
