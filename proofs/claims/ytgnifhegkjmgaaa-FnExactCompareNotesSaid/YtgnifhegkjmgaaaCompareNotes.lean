/- Law: the program's CompareNotes returns what the reference's returns, for all arguments. No condition. -/
import Derived.Test.YtgnifhegkjmgaaaFrame
import Derived.Test.YtgnifhegkjmgaaaOpenNt1
import Derived.Test.YtgnifhegkjmgaaaCmpNY
namespace Go.Proofs.Ytgnifhegkjmgaaa.fnExactCompareNotes
open Go.ChangeShapes Go.WideShapes Go.ChangeAt Go.RowKit Go.Sort
open Go.ChangeMaps (open_string shut_string)

theorem cells8 {b : Nat} {x : Nt} {T : Option Addr} {c : Nat} {W : World} (h : BoxV b (ntC x T c) W) : (W.cell? ⟨b, 0, none⟩ = some (.string x.name) ∧ W.cell? ⟨b, 1, none⟩ = some (.int .i64 x.kind) ∧ W.cell? ⟨b, 2, none⟩ = some (.int .i64 x.num) ∧ W.cell? ⟨b, 3, none⟩ = some (.int .i64 x.den) ∧ W.cell? ⟨b, 4, none⟩ = some (.slice T x.terms.length c) ∧ W.cell? ⟨b, 5, none⟩ = some (.int .i64 x.sp) ∧ W.cell? ⟨b, 6, none⟩ = some (.int .i64 x.sd) ∧ W.cell? ⟨b, 7, none⟩ = some (.int .i64 x.sq)) := ⟨h.at 0 _ rfl, h.at 1 _ rfl, h.at 2 _ rfl, h.at 3 _ rfl, h.at 4 _ rfl, h.at 5 _ rfl, h.at 6 _ rfl, h.at 7 _ rfl⟩
set_option maxRecDepth 100000 in
set_option maxHeartbeats 4000000 in
theorem walkG (x y : Nt) (T U : Option Addr) (c d : Nat) (w : World) (hx : RdT w w.heap.size T c x.terms) (hy : RdT w w.heap.size U d y.terms) (hf : x.fits) (hg : y.fits) :
    Calls Try.prog 10 #[ntV x.name x.kind x.num x.den T x.terms.length c x.sp x.sd x.sq, ntV y.name y.kind y.num y.den U y.terms.length d y.sp y.sd y.sq] w fun e w' => e = .returned (.bool true) ∧ Below w.heap.size w w' := by
  have HZX : Hid (∀ W : World, Calls Try.prog 64 #[ntV x.name x.kind x.num x.den T x.terms.length c x.sp x.sd x.sq, .int .i64 1048576] W fun e w' => e = .returned (.int .i64 (if (x.sz : Int) ≤ 1048576 then 1048576 - x.sz else -1)) ∧ Below W.heap.size W w') := fun W => szNote_any x T c 1048576 W hf (by omega) (by omega)
  by_cases hsx : (x.sz : Int) ≤ 1048576
  · rw [if_pos hsx] at HZX
    have HZY : Hid (∀ W : World, Calls Try.prog 64 #[ntV y.name y.kind y.num y.den U y.terms.length d y.sp y.sd y.sq, .int .i64 (1048576 - (x.sz : Int))] W fun e w' => e = .returned (.int .i64 (if (y.sz : Int) ≤ 1048576 - (x.sz : Int) then 1048576 - (x.sz : Int) - y.sz else -1)) ∧ Below W.heap.size W w') := fun W => szNote_any y U d _ W hg (by omega) (by omega)
    have hz : 0 ≤ 1048576 - (x.sz : Int) := by omega
    by_cases hsy : (y.sz : Int) ≤ 1048576 - (x.sz : Int)
    · rw [if_pos hsy] at HZY
      have hz2 : 0 ≤ 1048576 - (x.sz : Int) - (y.sz : Int) := by omega
      have hxm : x.terms.length ≤ 1048576 := by unfold Nt.sz at hsx; omega
      have hym : y.terms.length ≤ 1048576 := by unfold Nt.sz at hsy; omega
      have HI : Hid (∀ (T U : Option Addr) (c d : Nat) (W : World), RdT W W.heap.size T c x.terms → RdT W W.heap.size U d y.terms → Calls Try.prog 69 #[ntV x.name x.kind x.num x.den T x.terms.length c x.sp x.sd x.sq, ntV y.name y.kind y.num y.den U y.terms.length d y.sp y.sd y.sq] W fun e w' => e = .returned (.tuple #[.int .i64 (cnR x y).1, .int .i64 (cnR x y).2]) ∧ Below W.heap.size W w') := fun T U c d W h1 h2 => iCompareNotes_any x y T U c d W h1 h2 hf hg
      have HS : Hid (∀ (T U : Option Addr) (c d : Nat) (W : World), RdT W W.heap.size T c x.terms → RdT W W.heap.size U d y.terms → Calls Try.prog 68 #[ntV x.name x.kind x.num x.den T x.terms.length c x.sp x.sd x.sq, ntV y.name y.kind y.num y.den U y.terms.length d y.sp y.sd y.sq] W fun e w' => e = .returned (.tuple #[.int .i64 (cnR x y).1, .int .i64 (cnR x y).2]) ∧ Below W.heap.size W w') := fun T U c d W h1 h2 => sCompareNotes_any x y T U c d W h1 h2 hf hg
      have HTX : Hid (∀ W : World, Below w.heap.size w W → Calls Try.prog 66 #[ntV x.name x.kind x.num x.den T x.terms.length c x.sp x.sd x.sq] W fun e w' => ∃ B d, e = .returned (ntV x.name x.kind x.num x.den B x.terms.length d x.sp x.sd x.sq) ∧ WrT w' W.heap.size B d x.terms ∧ Below W.heap.size W w') := fun W hb => toNote_any x T c W (hx.next hb).1 hxm
      have HTY : Hid (∀ W : World, Below w.heap.size w W → Calls Try.prog 66 #[ntV y.name y.kind y.num y.den U y.terms.length d y.sp y.sd y.sq] W fun e w' => ∃ B c, e = .returned (ntV y.name y.kind y.num y.den B y.terms.length c y.sp y.sd y.sq) ∧ WrT w' W.heap.size B c y.terms ∧ Below W.heap.size W w') := fun W hb => toNote_any y U d W (hy.next hb).1 hym
      have HEX : Hid (∀ (A B : Option Addr) (c d : Nat) (W : World), Rd (Value.int .i64) W W.heap.size A x.terms → Rd (Value.int .i64) W W.heap.size B x.terms → Calls Try.prog 56 #[ntV x.name x.kind x.num x.den A x.terms.length c x.sp x.sd x.sq, ntV x.name x.kind x.num x.den B x.terms.length d x.sp x.sd x.sq] W fun e w' => e = .returned (.bool true) ∧ Below W.heap.size W w') := fun A B c d W h1 h2 => eqNote_any x A B c d W h1 h2 hf.2
      have HEY : Hid (∀ (A B : Option Addr) (c d : Nat) (W : World), Rd (Value.int .i64) W W.heap.size A y.terms → Rd (Value.int .i64) W W.heap.size B y.terms → Calls Try.prog 56 #[ntV y.name y.kind y.num y.den A y.terms.length c y.sp y.sd y.sq, ntV y.name y.kind y.num y.den B y.terms.length d y.sp y.sd y.sq] W fun e w' => e = .returned (.bool true) ∧ Below W.heap.size W w') := fun A B c d W h1 h2 => eqNote_any y A B c d W h1 h2 hg.2
      clear hsx hsy hx hy hf hg hxm hym
      generalize (x.sz : Int) = z at *
      generalize (y.sz : Int) = z' at *
      generalize (cnR x y).1 = v1 at *
      generalize (cnR x y).2 = v2 at *
      unfold ntV at *
      go_enter Try.func10, Try.ntmps10
      go_wp2_with fail
      refine (HZX.out _).mono ?_
      rintro e w1 ⟨rfl, hb1⟩
      have HBX : Hid (BoxV w.heap.size (ntC x T c) w1) := (BoxV.two w (ntC x T c) (ntC y U d) _ _).1.next hb1
      have HBY : Hid (BoxV (w.heap.size + 1) (ntC y U d) w1) := (BoxV.two w (ntC x T c) (ntC y U d) _ _).2.next hb1
      have HB := Lib.hid (ext_trans (ext_alloc (ext1 w (.cells #[.string x.name, .int .i64 x.kind, .int .i64 x.num, .int .i64 x.den, .slice T x.terms.length c, .int .i64 x.sp, .int .i64 x.sd, .int .i64 x.sq] 88)) _) hb1)
      clear hb1
      have y0 := HBY.out.at 0 _ rfl
      have y1 := HBY.out.at 1 _ rfl
      have y2 := HBY.out.at 2 _ rfl
      have y3 := HBY.out.at 3 _ rfl
      have y4 := HBY.out.at 4 _ rfl
      have y5 := HBY.out.at 5 _ rfl
      have y6 := HBY.out.at 6 _ rfl
      have y7 := HBY.out.at 7 _ rfl
      go_wp2_with fail
      refine (HZY.out _).mono ?_
      rintro e w2 ⟨rfl, hb2⟩
      have HBX := Lib.hid (HBX.out.next hb2)
      have HBY := Lib.hid (HBY.out.next hb2)
      have HB := Lib.hid (ext_trans HB.out hb2)
      clear hb2 y0 y1 y2 y3 y4 y5 y6 y7
      have HCK : Hid (∀ W : World, Below w2.heap.size w2 W → (W.cell? ⟨w.heap.size, 0, none⟩ = some (.string x.name) ∧ W.cell? ⟨w.heap.size, 1, none⟩ = some (.int .i64 x.kind) ∧ W.cell? ⟨w.heap.size, 2, none⟩ = some (.int .i64 x.num) ∧ W.cell? ⟨w.heap.size, 3, none⟩ = some (.int .i64 x.den) ∧ W.cell? ⟨w.heap.size, 4, none⟩ = some (.slice T x.terms.length c) ∧ W.cell? ⟨w.heap.size, 5, none⟩ = some (.int .i64 x.sp) ∧ W.cell? ⟨w.heap.size, 6, none⟩ = some (.int .i64 x.sd) ∧ W.cell? ⟨w.heap.size, 7, none⟩ = some (.int .i64 x.sq)) ∧ (W.cell? ⟨(w.heap.size + 1), 0, none⟩ = some (.string y.name) ∧ W.cell? ⟨(w.heap.size + 1), 1, none⟩ = some (.int .i64 y.kind) ∧ W.cell? ⟨(w.heap.size + 1), 2, none⟩ = some (.int .i64 y.num) ∧ W.cell? ⟨(w.heap.size + 1), 3, none⟩ = some (.int .i64 y.den) ∧ W.cell? ⟨(w.heap.size + 1), 4, none⟩ = some (.slice U y.terms.length d) ∧ W.cell? ⟨(w.heap.size + 1), 5, none⟩ = some (.int .i64 y.sp) ∧ W.cell? ⟨(w.heap.size + 1), 6, none⟩ = some (.int .i64 y.sd) ∧ W.cell? ⟨(w.heap.size + 1), 7, none⟩ = some (.int .i64 y.sq))) := fun W hb => ⟨cells8 (HBX.out.next hb), cells8 (HBY.out.next hb)⟩
      go_wp2_with fail
      go_region_held3 (fun W => (W.cell? ⟨w.heap.size, 0, none⟩ = some (.string x.name) ∧ W.cell? ⟨w.heap.size, 1, none⟩ = some (.int .i64 x.kind) ∧ W.cell? ⟨w.heap.size, 2, none⟩ = some (.int .i64 x.num) ∧ W.cell? ⟨w.heap.size, 3, none⟩ = some (.int .i64 x.den) ∧ W.cell? ⟨w.heap.size, 4, none⟩ = some (.slice T x.terms.length c) ∧ W.cell? ⟨w.heap.size, 5, none⟩ = some (.int .i64 x.sp) ∧ W.cell? ⟨w.heap.size, 6, none⟩ = some (.int .i64 x.sd) ∧ W.cell? ⟨w.heap.size, 7, none⟩ = some (.int .i64 x.sq)) ∧ (W.cell? ⟨(w.heap.size + 1), 0, none⟩ = some (.string y.name) ∧ W.cell? ⟨(w.heap.size + 1), 1, none⟩ = some (.int .i64 y.kind) ∧ W.cell? ⟨(w.heap.size + 1), 2, none⟩ = some (.int .i64 y.num) ∧ W.cell? ⟨(w.heap.size + 1), 3, none⟩ = some (.int .i64 y.den) ∧ W.cell? ⟨(w.heap.size + 1), 4, none⟩ = some (.slice U y.terms.length d) ∧ W.cell? ⟨(w.heap.size + 1), 5, none⟩ = some (.int .i64 y.sp) ∧ W.cell? ⟨(w.heap.size + 1), 6, none⟩ = some (.int .i64 y.sd) ∧ W.cell? ⟨(w.heap.size + 1), 7, none⟩ = some (.int .i64 y.sq)))
        (exact HCK.out _ (by repeat (first | exact Below.refl _ _ | assumption | refine ext_alloc ?_ _ | refine ext_drew ?_ | refine ext_trans ?_ (by assumption))))
        (first | (go_at_call 66; (with_reducible refine (HTX.out _ (ext_drew HB.out)).mono ?_); rintro e w3 ⟨A3, a3, rfl, hw3, hb3⟩) | (go_at_call 66; (with_reducible refine (HTY.out _ (ext_trans (ext_drew HB.out) hb3)).mono ?_); rintro e w4 ⟨B4, b4, rfl, hw4, hb4⟩) | (go_at_call 68; (with_reducible refine (HS.out _ _ _ _ _ (hw3.rd.next hb4) hw4.rd).mono ?_); rintro e w5 ⟨rfl, hb5⟩))
      have HBX := Lib.hid (HBX.out.next (ext_trans (ext_trans (ext_trans (ext_drew (Below.refl _ _)) hb3) hb4) hb5))
      have HBY := Lib.hid (HBY.out.next (ext_trans (ext_trans (ext_trans (ext_drew (Below.refl _ _)) hb3) hb4) hb5))
      have HB := Lib.hid (ext_trans HB.out (ext_trans (ext_trans (ext_trans (ext_drew (Below.refl _ _)) hb3) hb4) hb5))
      clear hb3 hb4 hb5 hw3 hw4 HCK HS
      have x0 := HBX.out.at 0 _ rfl
      have x1 := HBX.out.at 1 _ rfl
      have x2 := HBX.out.at 2 _ rfl
      have x3 := HBX.out.at 3 _ rfl
      have x4 := HBX.out.at 4 _ rfl
      have x5 := HBX.out.at 5 _ rfl
      have x6 := HBX.out.at 6 _ rfl
      have x7 := HBX.out.at 7 _ rfl
      go_wp2_with fail
      refine (HTX.out _ HB.out).mono ?_
      rintro e w6 ⟨A6, a6, rfl, hw6, hb6⟩
      have HBX := Lib.hid ((HBX.out.next hb6).next (ext1 w6 (.cells #[.string x.name, .int .i64 x.kind, .int .i64 x.num, .int .i64 x.den, .slice A6 x.terms.length a6, .int .i64 x.sp, .int .i64 x.sd, .int .i64 x.sq] 73)))
      have HBY := Lib.hid ((HBY.out.next hb6).next (ext1 w6 (.cells #[.string x.name, .int .i64 x.kind, .int .i64 x.num, .int .i64 x.den, .slice A6 x.terms.length a6, .int .i64 x.sp, .int .i64 x.sd, .int .i64 x.sq] 73)))
      have HB := Lib.hid (ext_trans HB.out (ext_trans hb6 (ext1 w6 (.cells #[.string x.name, .int .i64 x.kind, .int .i64 x.num, .int .i64 x.den, .slice A6 x.terms.length a6, .int .i64 x.sp, .int .i64 x.sd, .int .i64 x.sq] 73))))
      have HG1 : Hid (BoxV w6.heap.size (ntC x A6 a6) (w6.alloc (.cells #[.string x.name, .int .i64 x.kind, .int .i64 x.num, .int .i64 x.den, .slice A6 x.terms.length a6, .int .i64 x.sp, .int .i64 x.sd, .int .i64 x.sq] 73))) := BoxV.new w6 #[.string x.name, .int .i64 x.kind, .int .i64 x.num, .int .i64 x.den, .slice A6 x.terms.length a6, .int .i64 x.sp, .int .i64 x.sd, .int .i64 x.sq] 73
      have HR1 := Lib.hid (hw6.rd.next (ext1 w6 (.cells #[.string x.name, .int .i64 x.kind, .int .i64 x.num, .int .i64 x.den, .slice A6 x.terms.length a6, .int .i64 x.sp, .int .i64 x.sd, .int .i64 x.sq] 73)))
      clear x0 x1 x2 x3 x4 x5 x6 x7 hw6 hb6
      have y0 := HBY.out.at 0 _ rfl
      have y1 := HBY.out.at 1 _ rfl
      have y2 := HBY.out.at 2 _ rfl
      have y3 := HBY.out.at 3 _ rfl
      have y4 := HBY.out.at 4 _ rfl
      have y5 := HBY.out.at 5 _ rfl
      have y6 := HBY.out.at 6 _ rfl
      have y7 := HBY.out.at 7 _ rfl
      go_wp2_with fail
      refine (HTY.out _ HB.out).mono ?_
      rintro e w7 ⟨B7, b7, rfl, hw7, hb7⟩
      have HBX := Lib.hid ((HBX.out.next hb7).next (ext1 w7 (.cells #[.string y.name, .int .i64 y.kind, .int .i64 y.num, .int .i64 y.den, .slice B7 y.terms.length b7, .int .i64 y.sp, .int .i64 y.sd, .int .i64 y.sq] 73)))
      have HBY := Lib.hid ((HBY.out.next hb7).next (ext1 w7 (.cells #[.string y.name, .int .i64 y.kind, .int .i64 y.num, .int .i64 y.den, .slice B7 y.terms.length b7, .int .i64 y.sp, .int .i64 y.sd, .int .i64 y.sq] 73)))
      have HB := Lib.hid (ext_trans HB.out (ext_trans hb7 (ext1 w7 (.cells #[.string y.name, .int .i64 y.kind, .int .i64 y.num, .int .i64 y.den, .slice B7 y.terms.length b7, .int .i64 y.sp, .int .i64 y.sd, .int .i64 y.sq] 73))))
      have HG1 := Lib.hid ((HG1.out.next hb7).next (ext1 w7 (.cells #[.string y.name, .int .i64 y.kind, .int .i64 y.num, .int .i64 y.den, .slice B7 y.terms.length b7, .int .i64 y.sp, .int .i64 y.sd, .int .i64 y.sq] 73)))
      have HG2 : Hid (BoxV w7.heap.size (ntC y B7 b7) (w7.alloc (.cells #[.string y.name, .int .i64 y.kind, .int .i64 y.num, .int .i64 y.den, .slice B7 y.terms.length b7, .int .i64 y.sp, .int .i64 y.sd, .int .i64 y.sq] 73))) := BoxV.new w7 #[.string y.name, .int .i64 y.kind, .int .i64 y.num, .int .i64 y.den, .slice B7 y.terms.length b7, .int .i64 y.sp, .int .i64 y.sd, .int .i64 y.sq] 73
      have HR1 := Lib.hid ((HR1.out.next hb7).next (ext1 w7 (.cells #[.string y.name, .int .i64 y.kind, .int .i64 y.num, .int .i64 y.den, .slice B7 y.terms.length b7, .int .i64 y.sp, .int .i64 y.sd, .int .i64 y.sq] 73)))
      have HR2 := Lib.hid (hw7.rd.next (ext1 w7 (.cells #[.string y.name, .int .i64 y.kind, .int .i64 y.num, .int .i64 y.den, .slice B7 y.terms.length b7, .int .i64 y.sp, .int .i64 y.sd, .int .i64 y.sq] 73)))
      clear y0 y1 y2 y3 y4 y5 y6 y7 hw7 hb7
      have x0 := HG1.out.at 0 _ rfl
      have x1 := HG1.out.at 1 _ rfl
      have x2 := HG1.out.at 2 _ rfl
      have x3 := HG1.out.at 3 _ rfl
      have x4 := HG1.out.at 4 _ rfl
      have x5 := HG1.out.at 5 _ rfl
      have x6 := HG1.out.at 6 _ rfl
      have x7 := HG1.out.at 7 _ rfl
      go_wp2_with fail
      refine (HI.out _ _ _ _ _ HR1.out HR2.out).mono ?_
      rintro e w8 ⟨rfl, hb8⟩
      have HBX := Lib.hid (HBX.out.next hb8)
      have HBY := Lib.hid (HBY.out.next hb8)
      have HG1 := Lib.hid (HG1.out.next hb8)
      have HG2 := Lib.hid (HG2.out.next hb8)
      have HR1 := Lib.hid (HR1.out.next hb8)
      have HR2 := Lib.hid (HR2.out.next hb8)
      have HB := Lib.hid (ext_trans HB.out hb8)
      clear hb8 x0 x1 x2 x3 x4 x5 x6 x7 HI
      have HCK : Hid (∀ W : World, Below w8.heap.size w8 W → (W.cell? ⟨w.heap.size, 0, none⟩ = some (.string x.name) ∧ W.cell? ⟨w.heap.size, 1, none⟩ = some (.int .i64 x.kind) ∧ W.cell? ⟨w.heap.size, 2, none⟩ = some (.int .i64 x.num) ∧ W.cell? ⟨w.heap.size, 3, none⟩ = some (.int .i64 x.den) ∧ W.cell? ⟨w.heap.size, 4, none⟩ = some (.slice T x.terms.length c) ∧ W.cell? ⟨w.heap.size, 5, none⟩ = some (.int .i64 x.sp) ∧ W.cell? ⟨w.heap.size, 6, none⟩ = some (.int .i64 x.sd) ∧ W.cell? ⟨w.heap.size, 7, none⟩ = some (.int .i64 x.sq)) ∧ (W.cell? ⟨w6.heap.size, 0, none⟩ = some (.string x.name) ∧ W.cell? ⟨w6.heap.size, 1, none⟩ = some (.int .i64 x.kind) ∧ W.cell? ⟨w6.heap.size, 2, none⟩ = some (.int .i64 x.num) ∧ W.cell? ⟨w6.heap.size, 3, none⟩ = some (.int .i64 x.den) ∧ W.cell? ⟨w6.heap.size, 4, none⟩ = some (.slice A6 x.terms.length a6) ∧ W.cell? ⟨w6.heap.size, 5, none⟩ = some (.int .i64 x.sp) ∧ W.cell? ⟨w6.heap.size, 6, none⟩ = some (.int .i64 x.sd) ∧ W.cell? ⟨w6.heap.size, 7, none⟩ = some (.int .i64 x.sq))) := fun W hb => ⟨cells8 (HBX.out.next hb), cells8 (HG1.out.next hb)⟩
      go_wp2_with fail
      go_region_held3 (fun W => (W.cell? ⟨w.heap.size, 0, none⟩ = some (.string x.name) ∧ W.cell? ⟨w.heap.size, 1, none⟩ = some (.int .i64 x.kind) ∧ W.cell? ⟨w.heap.size, 2, none⟩ = some (.int .i64 x.num) ∧ W.cell? ⟨w.heap.size, 3, none⟩ = some (.int .i64 x.den) ∧ W.cell? ⟨w.heap.size, 4, none⟩ = some (.slice T x.terms.length c) ∧ W.cell? ⟨w.heap.size, 5, none⟩ = some (.int .i64 x.sp) ∧ W.cell? ⟨w.heap.size, 6, none⟩ = some (.int .i64 x.sd) ∧ W.cell? ⟨w.heap.size, 7, none⟩ = some (.int .i64 x.sq)) ∧ (W.cell? ⟨w6.heap.size, 0, none⟩ = some (.string x.name) ∧ W.cell? ⟨w6.heap.size, 1, none⟩ = some (.int .i64 x.kind) ∧ W.cell? ⟨w6.heap.size, 2, none⟩ = some (.int .i64 x.num) ∧ W.cell? ⟨w6.heap.size, 3, none⟩ = some (.int .i64 x.den) ∧ W.cell? ⟨w6.heap.size, 4, none⟩ = some (.slice A6 x.terms.length a6) ∧ W.cell? ⟨w6.heap.size, 5, none⟩ = some (.int .i64 x.sp) ∧ W.cell? ⟨w6.heap.size, 6, none⟩ = some (.int .i64 x.sd) ∧ W.cell? ⟨w6.heap.size, 7, none⟩ = some (.int .i64 x.sq)))
        (exact HCK.out _ (by repeat (first | exact Below.refl _ _ | assumption | refine ext_alloc ?_ _ | refine ext_drew ?_ | refine ext_trans ?_ (by assumption))))
        (first | (go_at_call 66; (with_reducible refine (HTX.out _ (ext_drew HB.out)).mono ?_); rintro e w9 ⟨A9, a9, rfl, hw9, hb9⟩; have hr9 := hw9.rd.1; have hq9 := (HR1.out.next (ext_trans (ext_drew (Below.refl _ _)) hb9)).1) | (go_at_call 56; (with_reducible refine (HEX.out _ _ _ _ _ hq9 hr9).mono ?_); rintro e w10 ⟨rfl, hb10⟩))
      have hbt := ext_trans (ext_trans (ext_drew (Below.refl _ _)) hb9) hb10
      have HBY := Lib.hid (HBY.out.next hbt)
      have HG2 := Lib.hid (HG2.out.next hbt)
      have HR2 := Lib.hid (HR2.out.next hbt)
      have HB := Lib.hid (ext_trans HB.out hbt)
      clear hbt hb9 hb10 hw9 hr9 hq9 HCK HBX HG1 HR1
      have HCK : Hid (∀ W : World, Below w10.heap.size w10 W → (W.cell? ⟨(w.heap.size + 1), 0, none⟩ = some (.string y.name) ∧ W.cell? ⟨(w.heap.size + 1), 1, none⟩ = some (.int .i64 y.kind) ∧ W.cell? ⟨(w.heap.size + 1), 2, none⟩ = some (.int .i64 y.num) ∧ W.cell? ⟨(w.heap.size + 1), 3, none⟩ = some (.int .i64 y.den) ∧ W.cell? ⟨(w.heap.size + 1), 4, none⟩ = some (.slice U y.terms.length d) ∧ W.cell? ⟨(w.heap.size + 1), 5, none⟩ = some (.int .i64 y.sp) ∧ W.cell? ⟨(w.heap.size + 1), 6, none⟩ = some (.int .i64 y.sd) ∧ W.cell? ⟨(w.heap.size + 1), 7, none⟩ = some (.int .i64 y.sq)) ∧ (W.cell? ⟨w7.heap.size, 0, none⟩ = some (.string y.name) ∧ W.cell? ⟨w7.heap.size, 1, none⟩ = some (.int .i64 y.kind) ∧ W.cell? ⟨w7.heap.size, 2, none⟩ = some (.int .i64 y.num) ∧ W.cell? ⟨w7.heap.size, 3, none⟩ = some (.int .i64 y.den) ∧ W.cell? ⟨w7.heap.size, 4, none⟩ = some (.slice B7 y.terms.length b7) ∧ W.cell? ⟨w7.heap.size, 5, none⟩ = some (.int .i64 y.sp) ∧ W.cell? ⟨w7.heap.size, 6, none⟩ = some (.int .i64 y.sd) ∧ W.cell? ⟨w7.heap.size, 7, none⟩ = some (.int .i64 y.sq))) := fun W hb => ⟨cells8 (HBY.out.next hb), cells8 (HG2.out.next hb)⟩
      go_wp2_with fail
      go_region_held3 (fun W => (W.cell? ⟨(w.heap.size + 1), 0, none⟩ = some (.string y.name) ∧ W.cell? ⟨(w.heap.size + 1), 1, none⟩ = some (.int .i64 y.kind) ∧ W.cell? ⟨(w.heap.size + 1), 2, none⟩ = some (.int .i64 y.num) ∧ W.cell? ⟨(w.heap.size + 1), 3, none⟩ = some (.int .i64 y.den) ∧ W.cell? ⟨(w.heap.size + 1), 4, none⟩ = some (.slice U y.terms.length d) ∧ W.cell? ⟨(w.heap.size + 1), 5, none⟩ = some (.int .i64 y.sp) ∧ W.cell? ⟨(w.heap.size + 1), 6, none⟩ = some (.int .i64 y.sd) ∧ W.cell? ⟨(w.heap.size + 1), 7, none⟩ = some (.int .i64 y.sq)) ∧ (W.cell? ⟨w7.heap.size, 0, none⟩ = some (.string y.name) ∧ W.cell? ⟨w7.heap.size, 1, none⟩ = some (.int .i64 y.kind) ∧ W.cell? ⟨w7.heap.size, 2, none⟩ = some (.int .i64 y.num) ∧ W.cell? ⟨w7.heap.size, 3, none⟩ = some (.int .i64 y.den) ∧ W.cell? ⟨w7.heap.size, 4, none⟩ = some (.slice B7 y.terms.length b7) ∧ W.cell? ⟨w7.heap.size, 5, none⟩ = some (.int .i64 y.sp) ∧ W.cell? ⟨w7.heap.size, 6, none⟩ = some (.int .i64 y.sd) ∧ W.cell? ⟨w7.heap.size, 7, none⟩ = some (.int .i64 y.sq)))
        (exact HCK.out _ (by repeat (first | exact Below.refl _ _ | assumption | refine ext_alloc ?_ _ | refine ext_drew ?_ | refine ext_trans ?_ (by assumption))))
        (first | (go_at_call 66; (with_reducible refine (HTY.out _ (ext_drew HB.out)).mono ?_); rintro e w11 ⟨A11, a11, rfl, hw11, hb11⟩; have hr11 := hw11.rd.1; have hq11 := (HR2.out.next (ext_trans (ext_drew (Below.refl _ _)) hb11)).1) | (go_at_call 56; (with_reducible refine (HEY.out _ _ _ _ _ hq11 hr11).mono ?_); rintro e w12 ⟨rfl, hb12⟩))
      have HB := Lib.hid (ext_trans HB.out (ext_trans (ext_trans (ext_drew (Below.refl _ _)) hb11) hb12))
      go_wp2
      go_ret
      exact ⟨rfl, HB.out⟩
    · rw [if_neg hsy] at HZY
      clear hsx hsy hx hy hf hg
      generalize (x.sz : Int) = z at *
      generalize (y.sz : Int) = z' at *
      unfold ntV at *
      go_enter Try.func10, Try.ntmps10
      go_wp2_with fail
      refine (HZX.out _).mono ?_
      rintro e w1 ⟨rfl, hb1⟩
      have HBX : Hid (BoxV w.heap.size (ntC x T c) w1) := (BoxV.two w (ntC x T c) (ntC y U d) _ _).1.next hb1
      have HBY : Hid (BoxV (w.heap.size + 1) (ntC y U d) w1) := (BoxV.two w (ntC x T c) (ntC y U d) _ _).2.next hb1
      have HB := Lib.hid (ext_trans (ext_alloc (ext1 w (.cells #[.string x.name, .int .i64 x.kind, .int .i64 x.num, .int .i64 x.den, .slice T x.terms.length c, .int .i64 x.sp, .int .i64 x.sd, .int .i64 x.sq] 88)) _) hb1)
      clear hb1
      have y0 := HBY.out.at 0 _ rfl
      have y1 := HBY.out.at 1 _ rfl
      have y2 := HBY.out.at 2 _ rfl
      have y3 := HBY.out.at 3 _ rfl
      have y4 := HBY.out.at 4 _ rfl
      have y5 := HBY.out.at 5 _ rfl
      have y6 := HBY.out.at 6 _ rfl
      have y7 := HBY.out.at 7 _ rfl
      go_wp2_with fail
      refine (HZY.out _).mono ?_
      rintro e w2 ⟨rfl, hb2⟩
      have HBX := Lib.hid (HBX.out.next hb2)
      have HBY := Lib.hid (HBY.out.next hb2)
      have HB := Lib.hid (ext_trans HB.out hb2)
      clear hb2 y0 y1 y2 y3 y4 y5 y6 y7
      go_wp2
      go_ret
      exact ⟨rfl, HB.out⟩
  · rw [if_neg hsx] at HZX
    clear hsx hx hy hf hg
    unfold ntV at *
    go_enter Try.func10, Try.ntmps10
    go_wp2_with fail
    refine (HZX.out _).mono ?_
    rintro e w1 ⟨rfl, hb1⟩
    have HBX : Hid (BoxV w.heap.size (ntC x T c) w1) := (BoxV.two w (ntC x T c) (ntC y U d) _ _).1.next hb1
    have HBY : Hid (BoxV (w.heap.size + 1) (ntC y U d) w1) := (BoxV.two w (ntC x T c) (ntC y U d) _ _).2.next hb1
    have HB := Lib.hid (ext_trans (ext_alloc (ext1 w (.cells #[.string x.name, .int .i64 x.kind, .int .i64 x.num, .int .i64 x.den, .slice T x.terms.length c, .int .i64 x.sp, .int .i64 x.sd, .int .i64 x.sq] 88)) _) hb1)
    clear hb1
    go_wp2
    go_ret
    exact ⟨rfl, HB.out⟩
theorem walk (y0 : Nt) (T0 : Option Addr) (c0 : Nat) (y1 : Nt) (T1 : Option Addr) (c1 : Nat) (w : World) (h0 : IsNt1 w y0 T0 c0) (h1 : IsNt1 w y1 T1 c1) :
    Calls Try.prog 10 #[ntV y0.name y0.kind y0.num y0.den T0 y0.terms.length c0 y0.sp y0.sd y0.sq, ntV y1.name y1.kind y1.num y1.den T1 y1.terms.length c1 y1.sp y1.sd y1.sq] w fun e w' => e = .returned (.bool true) ∧ Below w.heap.size w w' := walkG y0 y1 T0 T1 c0 c1 w h0.2 h1.2 h0.1 h1.1

theorem own : ownKnob Try.prog.godebug = none := by kernel_rfl
theorem laidOut : laidOutB Try.prog = true := by kernel_rfl
set_option linter.unusedVariables false in
set_option maxRecDepth 100000 in
theorem lifted (os : Os) (started : os.Started) (H : Type) (enc : TypeId × Value → H) :
    ReturnsInHanded {} Try.checked os 10 .any (Rows.fnExactCompareNotesSpec.pre6 enc Try.prog Try.f10 Rows.fnExactCompareNotesRow.domain false) (Rows.fnExactCompareNotesSpec.post enc Try.prog Try.f10 false true false false) := by
  refine returnsInHanded_of_change (C := Try.checked) own started (by kernel_rfl) Try.func10
    (ChangeSpec.witness6 (enc := enc) (C := Try.checked) false ⟨#[], #[.agg #[.string ByteArray.empty, .int .i64 0, .int .i64 0, .int .i64 0, .slice none 0 0, .int .i64 0, .int .i64 0, .int .i64 0], .agg #[.string ByteArray.empty, .int .i64 0, .int .i64 0, .int .i64 0, .slice none 0 0, .int .i64 0, .int .i64 0, .int .i64 0]], []⟩ 8 (by kernel_rfl) (by kernel_rfl) (by kernel_rfl) (by kernel_rfl)) ?_
  intro W base args ds gs before hval0 hW hcnd _
  have hval : ∀ (j : Nat) t v, Try.f10.params[j]? = some t → args[j]? = some v → Value.okWide Try.prog W .any base t v := hval0
  have hW' := hW
  obtain ⟨p, q, hA0, hV, rfl, hfz, hnd⟩ := hW
  have hA : DataW.TrodAll enc Try.prog W 0 (fun _ => true) true Try.f10.params.toList args.toList ds p := hA0
  rw [Try.params10] at hA hval
  obtain ⟨v0, vs0, d0, ds0, p0, q0, hargs, rfl, rfl, h0, r0⟩ := trodAll_cons hA
  obtain ⟨v1, vs1, d1, ds1, p1, q1, rfl, rfl, rfl, h1, r1⟩ := trodAll_cons r0
  obtain ⟨rfl, rfl, rfl⟩ := trodAll_nil r1
  obtain rfl : args = #[v0, v1] := by cases args; simp_all
  obtain ⟨rfl, rfl⟩ := trodVars_none hV
  have k0 := h0
  have lt0 : ∀ x ∈ p0, x.block < W.heap.size := by obtain ⟨m, hm⟩ := k0; exact DataW.trod_lt m _ _ _ hm
  obtain ⟨y0, T0, c0, rfl, w0⟩ := open_note (hval 0 88 v0 rfl rfl) h0
  have k1 := h1
  have lt1 : ∀ x ∈ p1, x.block < W.heap.size := by obtain ⟨m, hm⟩ := k1; exact DataW.trod_lt m _ _ _ hm
  obtain ⟨y1, T1, c1, rfl, w1⟩ := open_note (hval 1 88 v1 rfl rfl) h1
  clear hA0 hval0
  refine (walk y0 T0 c0 y1 T1 c1 W w0 w1).mono fun e W' ⟨he, bel⟩ => ?_
  subst he
  exact ⟨_, rfl, _, _, _, [], _, [], hW', trodAll_mk1 (shut_bool Try.underlying4 _), (trodAll_cons_mk (Below.trod laidOut (by kernel_rfl) (of_decide_eq_true (by kernel_rfl)) k0 bel lt0) (trodAll_cons_mk (Below.trod laidOut (by kernel_rfl) (of_decide_eq_true (by kernel_rfl)) k1 bel lt1) trodAll_mk0)), rfl, bel.frame _, fun h => by cases h⟩

theorem jPlace : (Rows.fnExactCompareNotesRow.inPlace == Try.prog.inPlace 10) = true := by kernel_rfl
theorem jFollow : (Rows.fnExactCompareNotesRow.unfollowed == Try.prog.unfollowed 10) = true := by kernel_rfl
theorem jRecurse : (Rows.fnExactCompareNotesRow.recurses == Try.prog.recurses 10) = true := by kernel_rfl
theorem jNamed : (Rows.fnExactCompareNotesRow.named == Try.prog.varsNamed 10) = true := by kernel_rfl
theorem joined : joinedFacts Try.prog 10 Try.f10 Rows.fnExactCompareNotesSpec Rows.fnExactCompareNotesRow = true :=
  joined_of (by kernel_rfl) (by kernel_rfl) (by kernel_rfl) (by kernel_rfl) (by kernel_rfl) jPlace jFollow jRecurse jNamed (by kernel_rfl) (by kernel_rfl) (by kernel_rfl) (by kernel_rfl) (by kernel_rfl) (by kernel_rfl) (by kernel_rfl) (by kernel_rfl) (by kernel_rfl) rfl rfl rfl rfl rfl rfl (by kernel_rfl) (by kernel_rfl) (by kernel_rfl)
theorem over : Rows.fnExactCompareNotesRow.holds Try.pinned (OpenSpec.ofChange Rows.fnExactCompareNotesSpec) :=
  OpenClaim.holds_of_wide 10 Try.f10 rfl rfl rfl rfl rfl rfl rfl ⟨rfl, rfl, rfl, rfl, rfl⟩ rfl rfl rfl rfl rfl (by kernel_rfl) Try.func10 joined
    (of_decide_eq_true (by kernel_rfl)) (by unfold Func.isWrapper; first | (rw [if_pos (by decide +kernel)]; kernel_rfl) | (rw [if_neg (by decide +kernel)]; exact ⟨rfl, rfl⟩))
    (fun os started H enc _ => lifted os started H enc)

theorem proved : Rows.FnExactCompareNotesSaid := over
#print axioms proved
end Go.Proofs.Ytgnifhegkjmgaaa.fnExactCompareNotes
