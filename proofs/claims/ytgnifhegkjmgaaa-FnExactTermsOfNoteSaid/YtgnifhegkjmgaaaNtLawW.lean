/- Notes in the statements: marks, what holds on the way. No condition but those that each theorem names. -/
import Derived.Test.YtgnifhegkjmgaaaSoS
import Derived.Test.YtgnifhegkjmgaaaNotes
import Derived.Test.YtgnifhegkjmgaaaTmNoteI
namespace Go.Proofs.Ytgnifhegkjmgaaa
open Go.RowKit Go.Sort

theorem Wr.top {α : Type} {enc : α → Value} {A : Option Addr} {xs : List α} {top B : Nat} {w w' : World} (hw : Wr enc w B A xs) (hB : top ≤ B) (hs : w.heap.size ≤ w'.heap.size) (hk : ∀ B, top ≤ B → B < w.heap.size → w'.heap[B]? = w.heap[B]?) : Wr enc w' B A xs := fun hn => by
  obtain ⟨b, off, e, h1, h2, hc, hf⟩ := hw hn
  have hb := hk b (by omega) h2
  exact ⟨b, off, e, h1, by omega, fun j x hx => (World.cell?_of_block (a := ⟨b, off + j, none⟩) hb).trans (hc j x hx), fun j => by have := hf j; simpa only [World.frozen?, hb] using this⟩
/-- What holds while the statement is walked: the argument's box, the reference's digits, the program's. -/
structure NtB (w : World) (b3 b4 : Nat) (X : List Value) (As Ag : Option Addr) (xs zs : List Int) (W : World) : Prop where
  x0 : BoxV w.heap.size X W
  ws : Rd (Value.int .i64) W b3 As xs
  wg : Wr (Value.int .i64) W (b4 + 1) Ag zs
  bel : Below w.heap.size w W
  l3 : w.heap.size < b3
  l4 : b3 ≤ b4
  l5 : b4 + 1 ≤ W.heap.size
section
variable {w : World} {b3 b4 : Nat} {X X4 : List Value} {As Ag A B C : Option Addr} {s : So} {xs zs ys : List Int} {W W' : World}
theorem NtB.next (h : NtB w b3 b4 X As Ag xs zs W) (hb : Below W.heap.size W W') : NtB w b3 b4 X As Ag xs zs W' :=
  ⟨h.x0.next hb, h.ws.below (hb.mono (by have := h.l4; have := h.l5; omega)), h.wg.below hb, ext_trans h.bel hb, h.l3, h.l4, Nat.le_trans h.l5 hb.size⟩
theorem NtB.rds (h : NtB w b3 b4 X As Ag xs zs W) : Rd (Value.int .i64) W W.heap.size As xs := h.ws.more (by have := h.l4; have := h.l5; omega)
theorem NtB.marked (h : NtB w b3 b4 X As Ag xs zs W) (hb : Below b3 W W') (hs : W.heap.size ≤ W'.heap.size) (hf : ∀ B, b4 ≤ B → B < W.heap.size → W'.heap[B]? = W.heap[B]?) : NtB w b3 b4 X As Ag xs zs W' :=
  ⟨h.x0.under hb h.l3, h.ws.below hb, Wr.top h.wg (Nat.le_succ _) hs hf, h.bel.trans (hb.mono (Nat.le_of_lt h.l3)), h.l3, h.l4, Nat.le_trans h.l5 hs⟩
theorem NtB.remark (h : NtB w b3 b4 X As Ag xs zs W) (hw : Wr (Value.int .i64) W' (b4 + 1) Ag ys) (hb : Below (b4 + 1) W W') (hs : W'.heap.size = W.heap.size) : NtB w b3 b4 X As Ag xs ys W' :=
  ⟨h.x0.under hb (by have := h.l3; have := h.l4; omega), h.ws.below (hb.mono (by have := h.l4; omega)), hw, h.bel.trans (hb.mono (by have := h.l3; have := h.l4; omega)), h.l3, h.l4, by rw [hs]; exact h.l5⟩
end
/-- .. and the note that was handed to the program. -/
def NtA (w : World) (b3 b4 : Nat) (X X4 : List Value) (B : Option Addr) (c : Nat) (ts : List Int) (As Ag : Option Addr) (xs zs : List Int) (W : World) : Prop := NtB w b3 b4 X As Ag xs zs W ∧ BoxV b4 X4 W ∧ WrT W b3 B c ts
theorem NtA.next {w : World} {b3 b4 : Nat} {X X4 : List Value} {B : Option Addr} {c : Nat} {ts : List Int} {As Ag : Option Addr} {xs zs : List Int} {W W' : World} (h : NtA w b3 b4 X X4 B c ts As Ag xs zs W) (hb : Below W.heap.size W W') : NtA w b3 b4 X X4 B c ts As Ag xs zs W' := ⟨h.1.next hb, h.2.1.next hb, h.2.2.below hb⟩
theorem markNote_any (x : Nt) (T : Option Addr) (c base top : Nat) (v w : World) (hv : WrT v base T c x.terms) (hv2 : v.heap.size ≤ top) (hw : WrT w base T c x.terms) (hl : x.terms.length ≤ 1048576) (hb0 : base ≤ w.heap.size) (_ : top ≤ w.heap.size) :
    Calls Try.prog 59 #[ntV x.name x.kind x.num x.den T x.terms.length c x.sp x.sd x.sq, .int .i64 1] w fun e w' => ∃ k : Nat, e = .returned (.int .i64 (k : Int)) ∧ k ≤ 10000000 ∧ Below base w w' ∧ w.heap.size ≤ w'.heap.size ∧ ∀ B, top ≤ B → B < w.heap.size → w'.heap[B]? = w.heap[B]? := by
  have HV := Lib.hid hv.1
  have HW : Hid (Wr (Value.int .i64) (w.alloc (.cells #[.string x.name, .int .i64 x.kind, .int .i64 x.num, .int .i64 x.den, .slice T x.terms.length c, .int .i64 x.sp, .int .i64 x.sd, .int .i64 x.sq] 73)) base T x.terms) := hw.1.below (ext1 _ _)
  have HE := Lib.hid (ext1 w (.cells #[.string x.name, .int .i64 x.kind, .int .i64 x.num, .int .i64 x.den, .slice T x.terms.length c, .int .i64 x.sp, .int .i64 x.sd, .int .i64 x.sq] 73))
  have hz : (w.alloc (.cells #[.string x.name, .int .i64 x.kind, .int .i64 x.num, .int .i64 x.den, .slice T x.terms.length c, .int .i64 x.sp, .int .i64 x.sd, .int .i64 x.sq] 73)).heap.size = w.heap.size + 1 := by simp
  have HZ := Lib.hid hz
  clear hv hw hz
  unfold ntV
  go_enter Try.func59, Try.ntmps59
  go_wp2_with fail
  generalize w.alloc (.cells #[.string x.name, .int .i64 x.kind, .int .i64 x.num, .int .i64 x.den, .slice T x.terms.length c, .int .i64 x.sp, .int .i64 x.sd, .int .i64 x.sq] 73) = W at *
  refine (markInt64S_any T c x.terms base 1 W HW.out (by omega) (by omega) (by omega)).mono ?_
  rintro e w1 ⟨rfl, hx1, hb1, hs1, ho1⟩
  have HM := Lib.hid (Mid.of HV.out hv2 hb1 hs1 ho1)
  clear hx1 hb1 hs1 ho1
  go_wp2
  go_ret
  refine ⟨1 + x.terms.length, ret_int (by omega), by omega, (HE.out.mono hb0).trans HM.out.below, ?_, fun B h1 h2 => (HM.out.far B h1).trans (HE.out.block B h2)⟩
  have := HM.out.size
  have := HZ.out
  omega
end Go.Proofs.Ytgnifhegkjmgaaa
