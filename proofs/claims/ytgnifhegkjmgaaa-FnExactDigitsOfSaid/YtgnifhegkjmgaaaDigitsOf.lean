/- Law: the program's DigitsOf returns what the reference's returns, for all arguments. No condition. -/
import Derived.Test.YtgnifhegkjmgaaaFrame
import Derived.Test.YtgnifhegkjmgaaaSoS
import Derived.Test.YtgnifhegkjmgaaaDigDoW
namespace Go.Proofs.Ytgnifhegkjmgaaa.fnExactDigitsOf
open Go.ChangeShapes Go.WideShapes Go.ChangeAt Go.RowKit Go.Sort
open Go.ChangeMaps (open_string shut_string)

theorem Wr.top {α : Type} {enc : α → Value} {A : Option Addr} {xs : List α} {top B : Nat} {w w' : World} (hw : Wr enc w B A xs) (hB : top ≤ B) (hs : w.heap.size ≤ w'.heap.size) (hk : ∀ B, top ≤ B → B < w.heap.size → w'.heap[B]? = w.heap[B]?) : Wr enc w' B A xs := fun hn => by
  obtain ⟨b, off, e, h1, h2, hc, hf⟩ := hw hn
  have hb := hk b (by omega) h2
  exact ⟨b, off, e, h1, by omega, fun j x hx => (World.cell?_of_block (a := ⟨b, off + j, none⟩) hb).trans (hc j x hx), fun j => by have := hf j; simpa only [World.frozen?, hb] using this⟩
/-- What holds while the statement is walked: the argument's box, the reference's digits, the program's. -/
structure DoB (w : World) (b3 b4 : Nat) (X : List Value) (As Ag : Option Addr) (xs zs : List Int) (W : World) : Prop where
  x0 : BoxV w.heap.size X W
  ws : Rd (Value.int .i64) W b3 As xs
  wg : Wr (Value.int .i64) W (b4 + 1) Ag zs
  bel : Below w.heap.size w W
  l3 : w.heap.size < b3
  l4 : b3 ≤ b4
  l5 : b4 + 1 ≤ W.heap.size
section
variable {w : World} {b3 b4 : Nat} {X X4 : List Value} {As Ag A B C : Option Addr} {s : So} {xs zs ys : List Int} {W W' : World}
theorem DoB.next (h : DoB w b3 b4 X As Ag xs zs W) (hb : Below W.heap.size W W') : DoB w b3 b4 X As Ag xs zs W' :=
  ⟨h.x0.next hb, h.ws.below (hb.mono (by have := h.l4; have := h.l5; omega)), h.wg.below hb, ext_trans h.bel hb, h.l3, h.l4, Nat.le_trans h.l5 hb.size⟩
theorem DoB.rds (h : DoB w b3 b4 X As Ag xs zs W) : Rd (Value.int .i64) W W.heap.size As xs := h.ws.more (by have := h.l4; have := h.l5; omega)
theorem DoB.marked (h : DoB w b3 b4 X As Ag xs zs W) (hb : Below b3 W W') (hs : W.heap.size ≤ W'.heap.size) (hf : ∀ B, b4 ≤ B → B < W.heap.size → W'.heap[B]? = W.heap[B]?) : DoB w b3 b4 X As Ag xs zs W' :=
  ⟨h.x0.under hb h.l3, h.ws.below hb, Wr.top h.wg (Nat.le_succ _) hs hf, h.bel.trans (hb.mono (Nat.le_of_lt h.l3)), h.l3, h.l4, Nat.le_trans h.l5 hs⟩
theorem DoB.remark (h : DoB w b3 b4 X As Ag xs zs W) (hw : Wr (Value.int .i64) W' (b4 + 1) Ag ys) (hb : Below (b4 + 1) W W') (hs : W'.heap.size = W.heap.size) : DoB w b3 b4 X As Ag xs ys W' :=
  ⟨h.x0.under hb (by have := h.l3; have := h.l4; omega), h.ws.below (hb.mono (by have := h.l4; omega)), hw, h.bel.trans (hb.mono (by have := h.l3; have := h.l4; omega)), h.l3, h.l4, by rw [hs]; exact h.l5⟩
/-- .. and the argument that was handed to the program. -/
def DoA (w : World) (b3 b4 : Nat) (X X4 : List Value) (A B C : Option Addr) (s : So) (As Ag : Option Addr) (xs zs : List Int) (W : World) : Prop := DoB w b3 b4 X As Ag xs zs W ∧ BoxV b4 X4 W ∧ WrSo W b3 A B C s
theorem DoA.next (h : DoA w b3 b4 X X4 A B C s As Ag xs zs W) (hb : Below W.heap.size W W') : DoA w b3 b4 X X4 A B C s As Ag xs zs W' := ⟨h.1.next hb, h.2.1.next hb, h.2.2.next hb⟩
end

set_option maxRecDepth 100000 in
set_option maxHeartbeats 2000000 in
theorem walkG (s : So) (H P G : Option Addr) (ch cp cg : Nat) (base count : Int) (w : World) (hr : RdSo w w.heap.size H P G s) (hl : s.hd.length ≤ maxLen ∧ s.pd.length ≤ maxLen ∧ s.gr.length ≤ maxLen) :
    Calls Try.prog 5 #[souV H s.hd.length ch P s.pd.length cp G s.gr.length cg, .int .i64 base, .int .i64 count] w fun e w' => e = .returned (.bool true) ∧ Below w.heap.size w w' := by
  have HZ := Lib.hid (fun W : World => szSource_any s H P G ch cp cg W hl)
  by_cases hsz : s.sz ≤ 1048576
  · rw [if_pos hsz] at HZ
    have hsm : s.small := by unfold So.small; unfold So.sz at hsz; omega
    obtain ⟨v, xs, c, hxl, h1, h2⟩ := digits_both s base count
    have HI := Lib.hid h1
    have HS := Lib.hid h2
    have HTO : Hid (∀ W : World, Below w.heap.size w W → Calls Try.prog 26 #[souV H s.hd.length ch P s.pd.length cp G s.gr.length cg] W (RetSou W s)) := fun W hb => toSource_any s H P G ch cp cg W (hr.next hb) hsm
    have HEQ : Hid (∀ (H P G H' P' G' : Option Addr) (ch cp cg ch' cp' cg' : Nat) (W : World), RdSo W W.heap.size H P G s → RdSo W W.heap.size H' P' G' s → Calls Try.prog 28 #[souV H s.hd.length ch P s.pd.length cp G s.gr.length cg, souV H' s.hd.length ch' P' s.pd.length cp' G' s.gr.length cg'] W fun e w' => e = .returned (.bool true) ∧ Below W.heap.size W w') := fun H P G H' P' G' ch cp cg ch' cp' cg' W h1 h2 => eqSource_any s H P G H' P' G' ch cp cg ch' cp' cg' W h1 h2 hsm
    have hz : 0 ≤ 1048576 - (s.sz : Int) := by omega
    clear h1 h2 hsz hl hr
    unfold RetSou at HTO
    unfold RetDo at HI HS
    unfold souV at *
    generalize (s.sz : Int) = z at *
    go_enter Try.func5, Try.ntmps5
    go_wp2_with fail
    have E0 := Lib.hid (ext1 w (.cells #[.slice H s.hd.length ch, .slice P s.pd.length cp, .slice G s.gr.length cg] 37))
    refine (HZ.out _).mono ?_
    rintro e w1 ⟨rfl, hb1⟩
    have E1 := Lib.hid (ext_trans E0.out hb1)
    obtain ⟨hc1, hf1⟩ := bcell hb1
    have hy1 := hb1.size
    (try simp at hy1)
    have hz1 : w.heap.size < w1.heap.size := by omega
    go_wp2_with fail
    refine (HTO.out _ E1.out).mono ?_
    rintro e w2 ⟨A, B, C, a, b, c', rfl, hw2, hb2⟩
    have E2 := Lib.hid (ext_trans E1.out hb2)
    obtain ⟨hc2, hf2⟩ := bcell hb2
    have hy2 := hb2.size
    have hz2 : w.heap.size < w2.heap.size := by omega
    go_wp2_with fail
    refine (HS.out _ _ _ _ _ _ _ hw2.rd).mono ?_
    rintro e w3 ⟨As, cs, rfl, hws, hb3⟩
    have E3 := Lib.hid (ext_trans E2.out hb3)
    obtain ⟨hc3, hf3⟩ := bcell hb3
    have hy3 := hb3.size
    have hz3 : w.heap.size < w3.heap.size := by omega
    go_wp2_with fail
    refine (HTO.out _ E3.out).mono ?_
    rintro e w4 ⟨A4, B4, C4, a4, b4, c4, rfl, hw4, hb4⟩
    have E4 := Lib.hid (ext_trans E3.out hb4)
    obtain ⟨hc4, hf4⟩ := bcell hb4
    have hy4 := hb4.size
    have hz4 : w.heap.size < w4.heap.size := by omega
    go_wp2_with fail
    have HX0 : BoxV w.heap.size [.slice H s.hd.length ch, .slice P s.pd.length cp, .slice G s.gr.length cg] w4 := (BoxV.new w #[.slice H s.hd.length ch, .slice P s.pd.length cp, .slice G s.gr.length cg] 37).next (hb1.trans ((hb2.mono (by simp; omega)).trans ((hb3.mono (by simp; omega)).trans (hb4.mono (by simp; omega)))))
    have HVV := Lib.hid hw4
    have hy34 : w3.heap.size ≤ w4.heap.size := hy4
    have hz3' : w.heap.size < w3.heap.size := hz3
    refine (HI.out _ _ _ _ _ _ _ (hw4.rd.next (ext1 w4 (.cells #[.slice A4 s.hd.length a4, .slice B4 s.pd.length b4, .slice C4 s.gr.length c4] 41)))).mono ?_
    rintro e w5 ⟨Ag, cg5, rfl, hwg, hb5⟩
    have hy5 : w4.heap.size + 1 ≤ w5.heap.size := by simpa using hb5.size
    have HWG : Wr (Value.int .i64) w5 (w4.heap.size + 1) Ag xs := by simpa using hwg
    have DA : Hid (DoA w w3.heap.size w4.heap.size [.slice H s.hd.length ch, .slice P s.pd.length cp, .slice G s.gr.length cg] [.slice A4 s.hd.length a4, .slice B4 s.pd.length b4, .slice C4 s.gr.length c4] A4 B4 C4 s As Ag xs xs w5) :=
      ⟨⟨(HX0.alloc _).next hb5, ((hws.rd.below hb4).below ((ext1 w4 (.cells #[.slice A4 s.hd.length a4, .slice B4 s.pd.length b4, .slice C4 s.gr.length c4] 41)).mono hy4)).below (hb5.mono (by simp; omega)), HWG, ext_trans (ext_alloc E4.out _) hb5, hz3, hy4, by omega⟩, (BoxV.new w4 #[.slice A4 s.hd.length a4, .slice B4 s.pd.length b4, .slice C4 s.gr.length c4] 41).next hb5, (hw4.next (ext1 _ _)).next hb5⟩
    clear HWG hwg hb5 HX0 hc1 hc2 hc3 hc4 hf1 hf2 hf3 hf4 hw2 hw4 HS HZ hws hb1 hb2 hb3 hb4 E0 E1 E2 E3 E4 hy1 hy2 hy3 hy4 hz1 hz2 hz3 hz4
    have hq : ∀ (B : Option Addr) (d : Nat) (W : World), Rd (Value.int .i64) W W.heap.size B xs → Rd (Value.int .i64) W W.heap.size As xs → Calls Try.prog 31 #[.slice B xs.length d, .slice As xs.length cs] W fun e w' => e = .returned (.bool true) ∧ Below W.heap.size W w' := fun B d W h1 h2 => by
      have := eqInt64S_any B As d cs xs xs W h1 h2 (by unfold maxLen; omega) (by unfold maxLen; omega)
      simpa using this
    have HQ := Lib.hid hq
    clear hq
    go_wp2_with fail
    refine (HQ.out _ _ _ DA.out.1.wg.rd DA.out.1.rds).mono ?_
    rintro e w6 ⟨rfl, hb6⟩
    have DA := Lib.hid (DA.out.next hb6)
    clear hb6
    have HCK : Hid (∀ W : World, Below w6.heap.size w6 W → (W.cell? ⟨w.heap.size, 0, none⟩ = some (.slice H s.hd.length ch) ∧ W.cell? ⟨w.heap.size, 1, none⟩ = some (.slice P s.pd.length cp) ∧ W.cell? ⟨w.heap.size, 2, none⟩ = some (.slice G s.gr.length cg)) ∧ (W.cell? ⟨w4.heap.size, 0, none⟩ = some (.slice A4 s.hd.length a4) ∧ W.cell? ⟨w4.heap.size, 1, none⟩ = some (.slice B4 s.pd.length b4) ∧ W.cell? ⟨w4.heap.size, 2, none⟩ = some (.slice C4 s.gr.length c4))) := fun W hb => ⟨⟨(DA.out.next hb).1.x0.at 0 _ rfl, (DA.out.next hb).1.x0.at 1 _ rfl, (DA.out.next hb).1.x0.at 2 _ rfl⟩, (DA.out.next hb).2.1.at 0 _ rfl, (DA.out.next hb).2.1.at 1 _ rfl, (DA.out.next hb).2.1.at 2 _ rfl⟩
    have HY : Hid (∀ W : World, Below w6.heap.size w6 W → RdSo W W.heap.size A4 B4 C4 s) := fun W hb => (DA.out.next hb).2.2.rd
    have HTO6 : Hid (∀ W : World, Below w6.heap.size w6 W → Calls Try.prog 26 #[.agg #[.slice H s.hd.length ch, .slice P s.pd.length cp, .slice G s.gr.length cg]] W fun e w' => ∃ A B C a b c, e = .returned (.agg #[.slice A s.hd.length a, .slice B s.pd.length b, .slice C s.gr.length c]) ∧ WrSo w' W.heap.size A B C s ∧ Below W.heap.size W w') := fun W hb => HTO.out W (DA.out.next hb).1.bel
    go_wp2_with fail
    go_region_held3 (fun W => (W.cell? ⟨w.heap.size, 0, none⟩ = some (.slice H s.hd.length ch) ∧ W.cell? ⟨w.heap.size, 1, none⟩ = some (.slice P s.pd.length cp) ∧ W.cell? ⟨w.heap.size, 2, none⟩ = some (.slice G s.gr.length cg)) ∧ (W.cell? ⟨w4.heap.size, 0, none⟩ = some (.slice A4 s.hd.length a4) ∧ W.cell? ⟨w4.heap.size, 1, none⟩ = some (.slice B4 s.pd.length b4) ∧ W.cell? ⟨w4.heap.size, 2, none⟩ = some (.slice C4 s.gr.length c4)))
      (exact HCK.out _ (by repeat (first | exact Below.refl _ _ | assumption | refine ext_alloc ?_ _ | refine ext_drew ?_ | refine ext_trans ?_ (by assumption))))
      (first | (go_at_call 26; (with_reducible refine (HTO6.out _ (ext_drew (Below.refl _ _))).mono ?_); rintro e w7 ⟨A6, B6, C6, a6, b6, c6, rfl, hw7, hb7⟩) | (go_at_call 28; (with_reducible refine (HEQ.out _ _ _ _ _ _ _ _ _ _ _ _ _ (HY.out _ (ext_trans (ext_drew (Below.refl _ _)) hb7)) hw7.rd).mono ?_); rintro e w8 ⟨rfl, hb8⟩))
    have DA := Lib.hid (DA.out.next (ext_trans (ext_trans (ext_drew (Below.refl _ _)) hb7) hb8))
    clear hb7 hb8 hw7 HTO6 HY HCK HEQ
    have y0 := DA.out.2.1.at 0 _ rfl
    have y1 := DA.out.2.1.at 1 _ rfl
    have y2 := DA.out.2.1.at 2 _ rfl
    go_wp2_with fail
    refine (markSource_any s A4 B4 C4 a4 b4 c4 w3.heap.size w4.heap.size w4 w8 HVV.out (Nat.le_refl _) DA.out.2.2 hsm (by have := DA.out.1.l5; omega) (by have := DA.out.1.l5; omega)).mono ?_
    rintro e w9 ⟨k, rfl, hk, hb9, hs9, hf9⟩
    have DB := Lib.hid (DA.out.1.marked hb9 hs9 hf9)
    clear y0 y1 y2 hb9 hs9 hf9 DA HVV
    have hk0 : ¬ ((k : Int) < 0) := by omega
    go_wp2_with fail
    refine (HQ.out _ _ _ DB.out.wg.rd DB.out.rds).mono ?_
    rintro e w10 ⟨rfl, hb10⟩
    have DB := Lib.hid (DB.out.next hb10)
    clear hb10 hk0
    go_wp2_with fail
    refine (markInt64S_any Ag cg5 xs (w4.heap.size + 1) 1 w10 DB.out.wg (by omega) (by omega) (by omega)).mono ?_
    rintro e w11 ⟨rfl, hx11, hb11, hs11, _⟩
    have DB := Lib.hid (DB.out.remark hx11 hb11 hs11)
    clear hx11 hb11 hs11
    have hn0 : ¬ ((1 : Int) + (xs.length : Int) < 0) := by omega
    have hn1 : ((1 : Int) + (xs.length : Int) != 1 + (xs.length : Int)) = false := by simp
    go_wp2_with fail
    refine (heldInt64S_any Ag cg5 xs.length 1 w11 DB.out.wg.rd (by omega) (by omega) (by omega)).mono ?_
    rintro e w' ⟨rfl, rfl⟩
    have x0 := DB.out.x0.at 0 _ rfl
    have x1 := DB.out.x0.at 1 _ rfl
    have x2 := DB.out.x0.at 2 _ rfl
    go_wp2_with fail
    refine (HTO.out _ DB.out.bel).mono ?_
    rintro e w12 ⟨A12, B12, C12, a12, b12, c12, rfl, hw12, hb12⟩
    have DB := Lib.hid (DB.out.next hb12)
    clear x0 x1 x2 hb12
    go_wp2_with fail
    refine (HI.out _ _ _ _ _ _ _ hw12.rd).mono ?_
    rintro e w13 ⟨Ah, ch13, rfl, hwh, hb13⟩
    have DB := Lib.hid (DB.out.next hb13)
    clear hb13 hw12
    go_wp2_with fail
    refine (HQ.out _ _ _ hwh.rd DB.out.rds).mono ?_
    rintro e w14 ⟨rfl, hb14⟩
    have DB := Lib.hid (DB.out.next hb14)
    clear hb14 hwh
    go_wp2_with fail
    refine (heldInt64S_any Ag cg5 xs.length 1 w14 DB.out.wg.rd (by omega) (by omega) (by omega)).mono ?_
    rintro e w' ⟨rfl, rfl⟩
    go_wp2
    go_ret
    exact ⟨rfl, DB.out.bel⟩
  · rw [if_neg hsz] at HZ
    go_enter Try.func5, Try.ntmps5
    go_wp2_with fail
    refine (HZ.out _).mono ?_
    rintro e w1 ⟨rfl, hb1⟩
    go_wp2
    go_ret
    exact ⟨rfl, ext_trans (ext1 _ _) hb1⟩

set_option maxRecDepth 100000 in
theorem walk (A0 : Option Addr) (l0 c0 : Nat) (z0 : List Int) (A1 : Option Addr) (l1 c1 : Nat) (z1 : List Int) (A2 : Option Addr) (l2 c2 : Nat) (z2 : List Int) (base count : Int) (w : World) (h0 : IsRow .i64 w A0 l0 c0 z0) (h1 : IsRow .i64 w A1 l1 c1 z1) (h2 : IsRow .i64 w A2 l2 c2 z2) (_ : (Lit.int .i64 base).wf = true) (_ : (Lit.int .i64 count).wf = true) :
    Calls Try.prog 5 #[souV A0 l0 c0 A1 l1 c1 A2 l2 c2, .int .i64 base, .int .i64 count] w fun e w' => e = .returned (.bool true) ∧ Below w.heap.size w w' := by
  obtain ⟨e0, m0, r0, _⟩ := h0.rd
  obtain ⟨e1, m1, r1, _⟩ := h1.rd
  obtain ⟨e2, m2, r2, _⟩ := h2.rd
  have h := walkG ⟨z0.take l0, z1.take l1, z2.take l2⟩ A0 A1 A2 c0 c1 c2 base count w ⟨r0, r1, r2⟩ ⟨by show (z0.take l0).length ≤ _; omega, by show (z1.take l1).length ≤ _; omega, by show (z2.take l2).length ≤ _; omega⟩
  simpa only [e0, e1, e2] using h

theorem own : ownKnob Try.prog.godebug = none := by kernel_rfl
theorem laidOut : laidOutB Try.prog = true := by kernel_rfl
set_option linter.unusedVariables false in
set_option maxRecDepth 100000 in
theorem lifted (os : Os) (started : os.Started) (H : Type) (enc : TypeId × Value → H) :
    ReturnsInHanded {} Try.checked os 5 .any (Rows.fnExactDigitsOfSpec.pre6 enc Try.prog Try.f5 Rows.fnExactDigitsOfRow.domain false) (Rows.fnExactDigitsOfSpec.post enc Try.prog Try.f5 false true false false) := by
  refine returnsInHanded_of_change (C := Try.checked) own started (by kernel_rfl) Try.func5
    (ChangeSpec.witness6 (enc := enc) (C := Try.checked) false ⟨#[], #[.agg #[.slice none 0 0, .slice none 0 0, .slice none 0 0], .int .i64 0, .int .i64 0], []⟩ 8 (by kernel_rfl) (by kernel_rfl) (by kernel_rfl) (by kernel_rfl)) ?_
  intro W base args ds gs before hval0 hW hcnd _
  have hval : ∀ (j : Nat) t v, Try.f5.params[j]? = some t → args[j]? = some v → Value.okWide Try.prog W .any base t v := hval0
  have hW' := hW
  obtain ⟨p, q, hA0, hV, rfl, hfz, hnd⟩ := hW
  have hA : DataW.TrodAll enc Try.prog W 0 (fun _ => true) true Try.f5.params.toList args.toList ds p := hA0
  rw [Try.params5] at hA hval
  obtain ⟨v0, vs0, d0, ds0, p0, q0, hargs, rfl, rfl, h0, r0⟩ := trodAll_cons hA
  obtain ⟨v1, vs1, d1, ds1, p1, q1, rfl, rfl, rfl, h1, r1⟩ := trodAll_cons r0
  obtain ⟨v2, vs2, d2, ds2, p2, q2, rfl, rfl, rfl, h2, r2⟩ := trodAll_cons r1
  obtain ⟨rfl, rfl, rfl⟩ := trodAll_nil r2
  obtain rfl : args = #[v0, v1, v2] := by cases args; simp_all
  obtain ⟨rfl, rfl⟩ := trodVars_none hV
  have k0 := h0
  have lt0 : ∀ x ∈ p0, x.block < W.heap.size := by obtain ⟨m, hm⟩ := k0; exact DataW.trod_lt m _ _ _ hm
  obtain ⟨u0_0, u0_1, u0_2, y0_0, y0_1, y0_2, n0, rfl, _, _, g0_0, g0_1, g0_2⟩ := Joins.open_agg3 Try.underlying37 (by kernel_rfl) (by kernel_rfl) (hval 0 37 v0 rfl rfl) h0
  obtain ⟨Af0_0, lf0_0, cf0_0, zf0_0, ef0_0, wf0_0⟩ : ∃ A l c zs, _ = [Value.slice A l c] ∧ IsRow .i64 W A l c zs := isRow_of Try.underlying30 Try.underlying2 (by kernel_rfl) g0_0
  simp only [List.cons.injEq, and_true] at ef0_0
  subst ef0_0
  obtain ⟨Af0_1, lf0_1, cf0_1, zf0_1, ef0_1, wf0_1⟩ : ∃ A l c zs, _ = [Value.slice A l c] ∧ IsRow .i64 W A l c zs := isRow_of Try.underlying30 Try.underlying2 (by kernel_rfl) g0_1
  simp only [List.cons.injEq, and_true] at ef0_1
  subst ef0_1
  obtain ⟨Af0_2, lf0_2, cf0_2, zf0_2, ef0_2, wf0_2⟩ : ∃ A l c zs, _ = [Value.slice A l c] ∧ IsRow .i64 W A l c zs := isRow_of Try.underlying30 Try.underlying2 (by kernel_rfl) g0_2
  simp only [List.cons.injEq, and_true] at ef0_2
  subst ef0_2
  have k1 := h1
  have lt1 : ∀ x ∈ p1, x.block < W.heap.size := by obtain ⟨m, hm⟩ := k1; exact DataW.trod_lt m _ _ _ hm
  obtain ⟨a1, rfl, rfl, rfl, w1⟩ := open_int Try.underlying2 (hval 1 2 v1 rfl rfl) h1
  have k2 := h2
  have lt2 : ∀ x ∈ p2, x.block < W.heap.size := by obtain ⟨m, hm⟩ := k2; exact DataW.trod_lt m _ _ _ hm
  obtain ⟨a2, rfl, rfl, rfl, w2⟩ := open_int Try.underlying2 (hval 2 2 v2 rfl rfl) h2
  clear hA0 hval0
  refine (walk Af0_0 lf0_0 cf0_0 zf0_0 Af0_1 lf0_1 cf0_1 zf0_1 Af0_2 lf0_2 cf0_2 zf0_2 a1 a2 W wf0_0 wf0_1 wf0_2 w1 w2).mono fun e W' ⟨he, bel⟩ => ?_
  subst he
  exact ⟨_, rfl, _, _, _, [], _, [], hW', trodAll_mk1 (shut_bool Try.underlying4 _), (trodAll_cons_mk (Below.trod laidOut (by kernel_rfl) (of_decide_eq_true (by kernel_rfl)) k0 bel lt0) (trodAll_cons_mk (Below.trod laidOut (by kernel_rfl) (of_decide_eq_true (by kernel_rfl)) k1 bel lt1) (trodAll_cons_mk (Below.trod laidOut (by kernel_rfl) (of_decide_eq_true (by kernel_rfl)) k2 bel lt2) trodAll_mk0))), rfl, bel.frame _, fun h => by cases h⟩

theorem jPlace : (Rows.fnExactDigitsOfRow.inPlace == Try.prog.inPlace 5) = true := by kernel_rfl
theorem jFollow : (Rows.fnExactDigitsOfRow.unfollowed == Try.prog.unfollowed 5) = true := by kernel_rfl
theorem jRecurse : (Rows.fnExactDigitsOfRow.recurses == Try.prog.recurses 5) = true := by kernel_rfl
theorem jNamed : (Rows.fnExactDigitsOfRow.named == Try.prog.varsNamed 5) = true := by kernel_rfl
theorem joined : joinedFacts Try.prog 5 Try.f5 Rows.fnExactDigitsOfSpec Rows.fnExactDigitsOfRow = true :=
  joined_of (by kernel_rfl) (by kernel_rfl) (by kernel_rfl) (by kernel_rfl) (by kernel_rfl) jPlace jFollow jRecurse jNamed (by kernel_rfl) (by kernel_rfl) (by kernel_rfl) (by kernel_rfl) (by kernel_rfl) (by kernel_rfl) (by kernel_rfl) (by kernel_rfl) (by kernel_rfl) rfl rfl rfl rfl rfl rfl (by kernel_rfl) (by kernel_rfl) (by kernel_rfl)
theorem over : Rows.fnExactDigitsOfRow.holds Try.pinned (OpenSpec.ofChange Rows.fnExactDigitsOfSpec) :=
  OpenClaim.holds_of_wide 5 Try.f5 rfl rfl rfl rfl rfl rfl rfl ⟨rfl, rfl, rfl, rfl, rfl⟩ rfl rfl rfl rfl rfl (by kernel_rfl) Try.func5 joined
    (of_decide_eq_true (by kernel_rfl)) (by unfold Func.isWrapper; first | (rw [if_pos (by decide +kernel)]; kernel_rfl) | (rw [if_neg (by decide +kernel)]; exact ⟨rfl, rfl⟩))
    (fun os started H enc _ => lifted os started H enc)

theorem proved : Rows.FnExactDigitsOfSaid := over
#print axioms proved
end Go.Proofs.Ytgnifhegkjmgaaa.fnExactDigitsOf
