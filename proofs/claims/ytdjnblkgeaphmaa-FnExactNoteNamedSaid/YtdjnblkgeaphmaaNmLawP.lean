/- What holds while a statement on one note out of a slice is walked; marks on one note. No condition but those that each theorem names. -/
import Derived.Test.YtdjnblkgeaphmaaMarkNtW
import Derived.Test.YtdjnblkgeaphmaaToNdW
import Derived.Test.YtdjnblkgeaphmaaBoxW
namespace Go.Proofs.Ytdjnblkgeaphmaa
open Go.RowKit Go.Sort

theorem posN_tot : ∀ xs : List Nt, posN xs xs.length ≤ 7 * xs.length + ntTot xs
  | [] => by simp [posN]
  | x :: xs => by
    have := posN_tot xs
    have e1 : posN (x :: xs) (x :: xs).length = x.wide + posN xs xs.length := by simp [posN]
    have e2 : ntTot (x :: xs) = x.sz + ntTot xs := by simp [ntTot]
    rw [e1, e2, List.length_cons]
    unfold Nt.wide Nt.sz
    omega
theorem BoxV.of_block {g : Nat} {vs : List Value} {W W' : World} (h : BoxV g vs W) (hb : W'.heap[g]? = W.heap[g]?) (hs : W.heap.size ≤ W'.heap.size) : BoxV g vs W' :=
  ⟨fun j v hv => (World.cell?_of_block (a := ⟨g, j, none⟩) hb).trans (h.c j v hv), fun j => by have := h.f j; simpa only [World.frozen?, hb] using this, Nat.lt_of_lt_of_le h.lt hs⟩
/-- The reference's note (a box b6 and terms), the program's (b9). -/
structure Nm (w : World) (b6 b3 b4 b9 : Nat) (X6 X9 : List Value) (B0 B1 : Option Addr) (t0 ts : List Int) (W : World) : Prop where
  a : Below w.heap.size w W
  x6 : BoxV b6 X6 W
  t6 : Rd (Value.int .i64) W b3 B0 t0
  x9 : BoxV b9 X9 W
  t9 : Wr (Value.int .i64) W b4 B1 ts
  l1 : w.heap.size ≤ b3
  l2 : b6 < b3
  l3 : b3 ≤ b4
  l4 : b4 ≤ b9
  l5 : ∀ t o i, B1 = some ⟨t, o, i⟩ → 0 < ts.length → t < b9
section
variable {w W W' : World} {b6 b3 b4 b9 : Nat} {X6 X9 : List Value} {B0 B1 : Option Addr} {t0 ts us : List Int}
theorem Nm.next (h : Nm w b6 b3 b4 b9 X6 X9 B0 B1 t0 ts W) (hb : Below W.heap.size W W') : Nm w b6 b3 b4 b9 X6 X9 B0 B1 t0 ts W' :=
  ⟨ext_trans h.a hb, h.x6.next hb, h.t6.below (hb.mono (by have := h.l3; have := h.l4; have := h.x9.lt; omega)), h.x9.next hb, h.t9.below hb, h.l1, h.l2, h.l3, h.l4, h.l5⟩
theorem Nm.rd6 (h : Nm w b6 b3 b4 b9 X6 X9 B0 B1 t0 ts W) : Rd (Value.int .i64) W W.heap.size B0 t0 := h.t6.more (by have := h.l3; have := h.l4; have := h.x9.lt; omega)
theorem Nm.marked (h : Nm w b6 b3 b4 b9 X6 X9 B0 B1 t0 ts W) (hb : Below b3 W W') (hs : W.heap.size ≤ W'.heap.size) (hf : ∀ B, b4 ≤ B → B < W.heap.size → W'.heap[B]? = W.heap[B]?) : Nm w b6 b3 b4 b9 X6 X9 B0 B1 t0 ts W' :=
  ⟨h.a.trans (hb.mono h.l1), h.x6.under hb h.l2, h.t6.below hb, h.x9.of_block (hf b9 h.l4 h.x9.lt) hs,
    fun hn => by
      obtain ⟨b, off, e, h1, h2, hc, hfz⟩ := h.t9 hn
      have hbb := hf b h1 h2
      exact ⟨b, off, e, h1, by omega, fun j x hx => (World.cell?_of_block (a := ⟨b, off + j, none⟩) hbb).trans (hc j x hx), fun j => by have := hfz j; simpa only [World.frozen?, hbb] using this⟩,
    h.l1, h.l2, h.l3, h.l4, h.l5⟩
theorem Nm.remark (h : Nm w b6 b3 b4 b9 X6 X9 B0 B1 t0 ts W) (hw : Wr (Value.int .i64) W' b4 B1 us) (hlen : us.length = ts.length) (hb : Below b4 W W') (hs : W'.heap.size = W.heap.size) (ho : Others B1 ts.length W W') : Nm w b6 b3 b4 b9 X6 X9 B0 B1 t0 us W' :=
  ⟨h.a.trans (hb.mono (by have := h.l1; have := h.l3; omega)), h.x6.under hb (by have := h.l2; have := h.l3; omega), h.t6.below (hb.mono h.l3),
    h.x9.of_block (ho b9 (fun hn => by
      obtain ⟨b, off, e, _, _⟩ := h.t9 hn
      exact ⟨b, off, e, by have := h.l5 _ _ _ e hn; omega⟩)) (by omega), hw, h.l1, h.l2, h.l3, h.l4, fun t o i e hn => h.l5 t o i e (by omega)⟩
end
theorem markNote_full (x : Nt) (T : Option Addr) (c base : Nat) (us : List Int) (w : World) (hu : us.length = x.terms.length) (hw : Wr (Value.int .i64) w base T us) (hl : x.terms.length ≤ 1048576) :
    Calls Try.prog 17 #[ntV x.name x.kind x.num x.den T x.terms.length c x.sp x.sd x.sq, .int .i64 1] w fun e w' => e = .returned (.int .i64 (1 + x.terms.length)) ∧ ∃ w2, Below w.heap.size w w2 ∧ Wr (Value.int .i64) w' base T (marks 1 x.terms.length) ∧ Below base w2 w' ∧ w'.heap.size = w2.heap.size ∧ Others T us.length w2 w' := by
  have HE := Lib.hid (ext1 w (.cells #[.string x.name, .int .i64 x.kind, .int .i64 x.num, .int .i64 x.den, .slice T x.terms.length c, .int .i64 x.sp, .int .i64 x.sd, .int .i64 x.sq] 30))
  have HC : Hid (Calls Try.prog 85 #[.slice T x.terms.length c, .int .i64 1] (w.alloc (.cells #[.string x.name, .int .i64 x.kind, .int .i64 x.num, .int .i64 x.den, .slice T x.terms.length c, .int .i64 x.sp, .int .i64 x.sd, .int .i64 x.sq] 30)) fun e w' => e = .returned (.int .i64 (1 + x.terms.length)) ∧ Wr (Value.int .i64) w' base T (marks 1 x.terms.length) ∧ Below base (w.alloc (.cells #[.string x.name, .int .i64 x.kind, .int .i64 x.num, .int .i64 x.den, .slice T x.terms.length c, .int .i64 x.sp, .int .i64 x.sd, .int .i64 x.sq] 30)) w' ∧ w'.heap.size = (w.alloc (.cells #[.string x.name, .int .i64 x.kind, .int .i64 x.num, .int .i64 x.den, .slice T x.terms.length c, .int .i64 x.sp, .int .i64 x.sd, .int .i64 x.sq] 30)).heap.size ∧ Others T us.length (w.alloc (.cells #[.string x.name, .int .i64 x.kind, .int .i64 x.num, .int .i64 x.den, .slice T x.terms.length c, .int .i64 x.sp, .int .i64 x.sd, .int .i64 x.sq] 30)) w') := by
    have := markInt64S_any T c us base 1 _ (hw.below (ext1 w (.cells #[.string x.name, .int .i64 x.kind, .int .i64 x.num, .int .i64 x.den, .slice T x.terms.length c, .int .i64 x.sp, .int .i64 x.sd, .int .i64 x.sq] 30))) (by omega) (by omega) (by omega)
    rw [hu] at this
    rw [hu]
    exact this
  clear hw hu
  unfold ntV
  go_enter Try.func17, Try.ntmps17
  go_wp2_with fail
  generalize w.alloc (.cells #[.string x.name, .int .i64 x.kind, .int .i64 x.num, .int .i64 x.den, .slice T x.terms.length c, .int .i64 x.sp, .int .i64 x.sd, .int .i64 x.sq] 30) = W at *
  refine HC.out.mono ?_
  rintro e w1 ⟨rfl, hx1, hb1, hs1, ho1⟩
  have HM := Lib.hid (And.intro hx1 (And.intro hb1 (And.intro hs1 ho1)))
  clear hx1 hb1 hs1 ho1
  go_wp2
  go_ret
  exact ⟨rfl, W, HE.out, HM.out⟩
theorem heldNote_any (x : Nt) (T : Option Addr) (c : Nat) (w : World) (hw : Rd (Value.int .i64) w w.heap.size T (marks 1 x.terms.length)) (hl : x.terms.length ≤ 1048576) :
    Calls Try.prog 18 #[ntV x.name x.kind x.num x.den T x.terms.length c x.sp x.sd x.sq, .int .i64 1] w fun e w' => e = .returned (.int .i64 (1 + x.terms.length)) ∧ Below w.heap.size w w' := by
  have HE := Lib.hid (ext1 w (.cells #[.string x.name, .int .i64 x.kind, .int .i64 x.num, .int .i64 x.den, .slice T x.terms.length c, .int .i64 x.sp, .int .i64 x.sd, .int .i64 x.sq] 30))
  have HR := Lib.hid (hw.next HE.out)
  clear hw
  unfold ntV
  go_enter Try.func18, Try.ntmps18
  go_wp2_with fail
  generalize w.alloc (.cells #[.string x.name, .int .i64 x.kind, .int .i64 x.num, .int .i64 x.den, .slice T x.terms.length c, .int .i64 x.sp, .int .i64 x.sd, .int .i64 x.sq] 30) = W at *
  refine (heldInt64S_any T c x.terms.length 1 W HR.out (by omega) (by omega) (by omega)).mono ?_
  rintro e w' ⟨rfl, rfl⟩
  have hn0 : ¬ (1 + (x.terms.length : Int) < 0) := by omega
  go_wp2
  go_ret
  exact ⟨rfl, HE.out⟩
end Go.Proofs.Ytdjnblkgeaphmaa
