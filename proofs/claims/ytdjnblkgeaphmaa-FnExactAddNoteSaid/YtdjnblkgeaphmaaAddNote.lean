/- Law: the program's AddNote returns what the reference's returns, for all arguments. No condition. -/
import Derived.Test.YtdjnblkgeaphmaaFrame
import Derived.Test.YtdjnblkgeaphmaaOpenNt1
import Derived.Test.YtdjnblkgeaphmaaNlLawP
import Derived.Test.YtdjnblkgeaphmaaAddNtS
namespace Go.Proofs.Ytdjnblkgeaphmaa
open Go.RowKit Go.Sort

theorem anX_bd (xs : List Nt) (x : Nt) (ht : ∀ x ∈ xs, x.terms.length ≤ 1048576) (hx : x.terms.length ≤ 1048576) : (anX xs x).length ≤ 41 ∧ ∀ y ∈ anX xs x, y.terms.length ≤ 1048576 := by
  unfold anX
  split
  · rename_i h
    have hv : validNt xs = true := by
      unfold anC at h
      split at h
      · rename_i hv; exact (Bool.and_eq_true _ _ ▸ hv).1
      · cases h
    have := validNt_len hv
    refine ⟨by simp only [List.length_append, List.length_take, List.length_drop, List.length_cons, List.length_nil]; omega, fun y hy => ?_⟩
    rcases List.mem_append.1 hy with hy | hy
    · rcases List.mem_append.1 hy with hy | hy
      · exact ht y (List.mem_of_mem_take hy)
      · rw [List.mem_singleton.1 hy]; exact hx
    · exact ht y (List.mem_of_mem_drop hy)
  · exact ⟨by simp, fun y hy => by simp at hy⟩
theorem BoxV.of_block2 {g : Nat} {vs : List Value} {W W' : World} (h : BoxV g vs W) (hb : W'.heap[g]? = W.heap[g]?) (hs : W.heap.size ≤ W'.heap.size) : BoxV g vs W' :=
  ⟨fun j v hv => (World.cell?_of_block (a := ⟨g, j, none⟩) hb).trans (h.c j v hv), fun j => by have := h.f j; simpa only [World.frozen?, hb] using this, Nat.lt_of_lt_of_le h.lt hs⟩
/-- The two results, and what was handed to the program: a slice of notes, a note in a box. -/
structure Na (w : World) (b3 bt b4 b5 b9 : Nat) (A0 A1 A4 : Option Addr) (xs ys : List Nt) (X0 X9 : List Value) (B1 : Option Addr) (d1 : Nat) (ts : List Int) (W : World) : Prop where
  nl : Nl w b3 b4 b5 A0 A1 ys ys W
  n5 : WrNd W b3 bt A4 xs
  x0 : BoxV w.heap.size X0 W
  x9 : BoxV b9 X9 W
  t9 : WrT W bt B1 d1 ts
  l0 : w.heap.size < b3
  l1 : bt ≤ b9
  l2 : b9 < b4
  l3 : ∀ t o i, B1 = some ⟨t, o, i⟩ → 0 < ts.length → t < b4
section
variable {w W W' W2 : World} {b3 bt b4 b5 b9 : Nat} {A0 A1 A4 : Option Addr} {xs ys : List Nt} {X0 X9 : List Value} {B1 : Option Addr} {d1 : Nat} {ts : List Int}
theorem Na.next (h : Na w b3 bt b4 b5 b9 A0 A1 A4 xs ys X0 X9 B1 d1 ts W) (hb : Below W.heap.size W W') : Na w b3 bt b4 b5 b9 A0 A1 A4 xs ys X0 X9 B1 d1 ts W' :=
  ⟨h.nl.next hb, h.n5.next (hb.mono h.n5.1), h.x0.next hb, h.x9.next hb, h.t9.below hb, h.l0, h.l1, h.l2, h.l3⟩
/-- Behind the marks on the slice: the note that was handed over, and the results. -/
structure Nb (w : World) (b3 bt b4 b5 b9 : Nat) (A0 A1 : Option Addr) (ys : List Nt) (X0 X9 : List Value) (B1 : Option Addr) (d1 : Nat) (ts : List Int) (W : World) : Prop where
  nl : Nl w b3 b4 b5 A0 A1 ys ys W
  x0 : BoxV w.heap.size X0 W
  x9 : BoxV b9 X9 W
  t9 : WrT W bt B1 d1 ts
  l0 : w.heap.size < b3
  l4 : b3 ≤ bt
  l5 : bt ≤ b4
  l3 : ∀ t o i, B1 = some ⟨t, o, i⟩ → 0 < ts.length → t < b4
theorem Na.marked (h : Na w b3 bt b4 b5 b9 A0 A1 A4 xs ys X0 X9 B1 d1 ts W) (h4 : b3 ≤ bt) (hb : Below b3 W W') (hs : W.heap.size ≤ W'.heap.size) (hf : ∀ B, bt ≤ B → B < W.heap.size → W'.heap[B]? = W.heap[B]?) : Nb w b3 bt b4 b5 b9 A0 A1 ys X0 X9 B1 d1 ts W' :=
  ⟨h.nl.marked hb hs (fun B h1 h2 => hf B (by have := h.l1; have := h.l2; omega) h2), h.x0.under hb h.l0, h.x9.of_block2 (hf b9 h.l1 h.x9.lt) hs,
    ⟨fun hn => by
      obtain ⟨b, off, e, h1, h2, hc, hfz⟩ := h.t9.1 hn
      have hbb := hf b h1 h2
      exact ⟨b, off, e, h1, by omega, fun j x hx => (World.cell?_of_block (a := ⟨b, off + j, none⟩) hbb).trans (hc j x hx), fun j => by have := hfz j; simpa only [World.frozen?, hbb] using this⟩, h.t9.2⟩,
    h.l0, h4, by have := h.l1; have := h.l2; omega, h.l3⟩
theorem Nb.marked (h : Nb w b3 bt b4 b5 b9 A0 A1 ys X0 X9 B1 d1 ts W) (hb0 : Below W.heap.size W W2) (hb : Below bt W2 W') (hs : W'.heap.size = W2.heap.size) (ho : Others B1 ts.length W2 W') : Nl w b3 b4 b5 A0 A1 ys ys W' ∧ BoxV w.heap.size X0 W' := by
  have h2 := h.nl.next hb0
  refine ⟨h2.marked (hb.mono h.l4) (by omega) (fun B h1 h3 => ho B (fun hn => ?_)), (h.x0.next hb0).under hb (by have := h.l0; have := h.l4; omega)⟩
  obtain ⟨b, off, e, _⟩ := h.t9.1 hn
  exact ⟨b, off, e, by have := h.l3 _ _ _ e hn; omega⟩
end
theorem markNoteK_any (x : Nt) (T : Option Addr) (c base : Nat) (k : Int) (w : World) (hw : WrT w base T c x.terms) (hl : x.terms.length ≤ 1048576) (k1 : 1 ≤ k) (k2 : k ≤ 200000000) :
    Calls Try.prog 17 #[ntV x.name x.kind x.num x.den T x.terms.length c x.sp x.sd x.sq, .int .i64 k] w fun e w' => e = .returned (.int .i64 (k + x.terms.length)) ∧ ∃ w2, Below w.heap.size w w2 ∧ Below base w2 w' ∧ w'.heap.size = w2.heap.size ∧ Others T x.terms.length w2 w' := by
  have HE := Lib.hid (ext1 w (.cells #[.string x.name, .int .i64 x.kind, .int .i64 x.num, .int .i64 x.den, .slice T x.terms.length c, .int .i64 x.sp, .int .i64 x.sd, .int .i64 x.sq] 30))
  have HW := Lib.hid (hw.1.below HE.out)
  clear hw
  unfold ntV
  go_enter Try.func17, Try.ntmps17
  go_wp2_with fail
  generalize w.alloc (.cells #[.string x.name, .int .i64 x.kind, .int .i64 x.num, .int .i64 x.den, .slice T x.terms.length c, .int .i64 x.sp, .int .i64 x.sd, .int .i64 x.sq] 30) = W at *
  refine (markInt64S_any T c x.terms base k W HW.out (by omega) (by omega) (by omega)).mono ?_
  rintro e w1 ⟨rfl, hx1, hb1, hs1, ho1⟩
  have HM := Lib.hid (And.intro hb1 (And.intro hs1 ho1))
  clear hx1 hb1 hs1 ho1
  go_wp2
  go_ret
  exact ⟨rfl, W, HE.out, HM.out⟩
end Go.Proofs.Ytdjnblkgeaphmaa
namespace Go.Proofs.Ytdjnblkgeaphmaa.fnExactAddNote
open Go.ChangeShapes Go.WideShapes Go.ChangeAt Go.RowKit Go.Sort
open Go.ChangeMaps (open_string shut_string)

theorem posN_tot : ∀ xs : List Nt, posN xs xs.length ≤ 7 * xs.length + ntTot xs
  | [] => by simp [posN]
  | x :: xs => by
    have := posN_tot xs
    have e1 : posN (x :: xs) (x :: xs).length = x.wide + posN xs xs.length := by simp [posN]
    have e2 : ntTot (x :: xs) = x.sz + ntTot xs := by simp [ntTot]
    rw [e1, e2, List.length_cons]
    unfold Nt.wide Nt.sz
    omega
set_option maxRecDepth 100000 in
set_option maxHeartbeats 4000000 in
theorem walkG (A : Option Addr) (c : Nat) (xs : List Nt) (x : Nt) (T : Option Addr) (ct : Nat) (w : World) (hx : RdNt w w.heap.size A xs) (hf : ∀ x ∈ xs, x.fits) (hm : xs.length ≤ maxLen) (hxT : RdT w w.heap.size T ct x.terms) (hxf : x.fits) :
    Calls Try.prog 5 #[.slice A xs.length c, ntV x.name x.kind x.num x.den T x.terms.length ct x.sp x.sd x.sq] w fun e w' => e = .returned (.bool true) ∧ Below w.heap.size w w' := by
  obtain ⟨tx, htx⟩ : ∃ t : Nat, xs.length + ntTot xs = t := ⟨_, rfl⟩
  have HZ : Hid (∀ W, Below w.heap.size w W → Calls Try.prog 10 #[.slice A xs.length c, .int .i64 1048576] W fun e w' => e = .returned (.int .i64 (if (tx : Int) ≤ 1048576 then 1048576 - tx else -1)) ∧ Below W.heap.size W w') := fun W hb => by
    have := szNoteS_any A c xs 1048576 W (hx.next hb) hf hm (by omega) (by omega)
    rwa [htx] at this
  have X0 := Lib.hid (BoxV.new w #[.string x.name, .int .i64 x.kind, .int .i64 x.num, .int .i64 x.den, .slice T x.terms.length ct, .int .i64 x.sp, .int .i64 x.sd, .int .i64 x.sq] 45)
  have E0 := Lib.hid (ext1 w (.cells #[.string x.name, .int .i64 x.kind, .int .i64 x.num, .int .i64 x.den, .slice T x.terms.length ct, .int .i64 x.sp, .int .i64 x.sd, .int .i64 x.sq] 45))
  by_cases h1 : (tx : Int) ≤ 1048576
  · rw [if_pos h1] at HZ
    have hl0 : 0 ≤ (1048576 : Int) - tx := by omega
    have HZN : Hid (∀ W, Calls Try.prog 22 #[ntV x.name x.kind x.num x.den T x.terms.length ct x.sp x.sd x.sq, .int .i64 (1048576 - tx)] W fun e w' => e = .returned (.int .i64 (if (x.sz : Int) ≤ 1048576 - tx then 1048576 - tx - x.sz else -1)) ∧ Below W.heap.size W w') := fun W => szNote_any x T ct (1048576 - tx) W hxf (by omega) (by omega)
    by_cases h2 : (x.sz : Int) ≤ 1048576 - tx
    · rw [if_pos h2] at HZN
      have hl1 : 0 ≤ (1048576 : Int) - tx - x.sz := by omega
      have hX : xs.length ≤ 1048576 ∧ ∀ x ∈ xs, x.terms.length ≤ 1048576 := ⟨by omega, fun x hx => by have := nt_le hx; omega⟩
      have hxl : x.terms.length ≤ 1048576 := by unfold Nt.sz at h2; omega
      have hpos : posN xs xs.length ≤ 100000000 := by have := posN_tot xs; omega
      obtain ⟨hy1, hy2⟩ := anX_bd xs x hX.2 hxl
      have hposy : posN (anX xs x) (anX xs x).length ≤ 100000000 := by have := posN_bd _ hy2 _ (Nat.le_refl _); omega
      have HTO : Hid (∀ W, Below w.heap.size w W → Calls Try.prog 12 #[.slice A xs.length c] W fun e w' => ∃ g : Nat, e = .returned (.slice (some ⟨g, 0, none⟩) xs.length xs.length) ∧ WrNd w' W.heap.size w'.heap.size (some ⟨g, 0, none⟩) xs ∧ Below W.heap.size W w') := fun W h => toNoteS_some A c xs W (hx.next h) hX.2 hX.1
      have HTN : Hid (∀ W : World, Below w.heap.size w W → Calls Try.prog 24 #[ntV x.name x.kind x.num x.den T x.terms.length ct x.sp x.sd x.sq] W fun e w' => ∃ B d, e = .returned (ntV x.name x.kind x.num x.den B x.terms.length d x.sp x.sd x.sq) ∧ WrT w' W.heap.size B d x.terms ∧ Below W.heap.size W w') := fun W hb => toNote_any x T ct W (hxT.next hb).1 hxl
      have HEQS : Hid (∀ W C D f g, RdNt W W.heap.size C xs → RdNt W W.heap.size D xs → Calls Try.prog 15 #[.slice C xs.length f, .slice D xs.length g] W fun e w' => e = .returned (.bool true) ∧ Below W.heap.size W w') := fun W C D f g h k => eqNoteS_any C D f g xs W h k (fun x hx => (hf x hx).2) hX.1
      have HEQ : Hid (∀ (A B : Option Addr) (c d : Nat) (W : World), Rd (Value.int .i64) W W.heap.size A x.terms → Rd (Value.int .i64) W W.heap.size B x.terms → Calls Try.prog 14 #[ntV x.name x.kind x.num x.den A x.terms.length c x.sp x.sd x.sq, ntV x.name x.kind x.num x.den B x.terms.length d x.sp x.sd x.sq] W fun e w' => e = .returned (.bool true) ∧ Below W.heap.size W w') := fun A B c d W h1 h2 => eqNote_any x A B c d W h1 h2 hxf.2
      have HI : Hid (∀ C B d W, RdNt W W.heap.size C xs → RdT W W.heap.size B d x.terms → Calls Try.prog 25 #[.slice C xs.length xs.length, ntV x.name x.kind x.num x.den B x.terms.length d x.sp x.sd x.sq] W (RetNtL W (anX xs x) (anC xs x))) := fun C B d W h h2 => iAddNote_any C _ xs x B d W h hf hX.1 hX.2 h2 hxf hxl
      have HS : Hid (∀ (g : Nat) B d W, RdNt W W.heap.size (some ⟨g, 0, none⟩) xs → RdT W W.heap.size B d x.terms → Calls Try.prog 23 #[.slice (some ⟨g, 0, none⟩) xs.length xs.length, ntV x.name x.kind x.num x.den B x.terms.length d x.sp x.sd x.sq] W (RetNtL W (anX xs x) (anC xs x))) := fun g B d W h h2 => sAddNote_any _ _ xs x B d W h hf hX.1 hX.2 h2 hxf hxl (Nat.le_refl _) hm ⟨g, 0, rfl⟩
      have HMK := Lib.hid (fun (B : Option Addr) (d base : Nat) (k : Int) (W : World) (h : WrT W base B d x.terms) (k1 : 1 ≤ k) (k2 : k ≤ 200000000) => markNoteK_any x B d base k W h hxl k1 k2)
      generalize anX xs x = ys at *
      generalize anC xs x = kc at *
      generalize (x.sz : Int) = z at *
      unfold RetNtL at HI HS
      have HEQY : Hid (∀ W C D f g, RdNt W W.heap.size C ys → RdNt W W.heap.size D ys → Calls Try.prog 15 #[.slice C ys.length f, .slice D ys.length g] W fun e w' => e = .returned (.bool true) ∧ Below W.heap.size W w') := fun W C D f g h k => eqNoteS_any C D f g ys W h k (fun x hx => by have := hy2 x hx; unfold maxLen; omega) (by omega)
      clear hX htx hx hf hm hy2 hxT hxf h2
      unfold ntV at *
      go_enter Try.func5, Try.ntmps5
      go_wp2_with fail
      refine (HZ.out _ E0.out).mono ?_
      rintro e w1 ⟨rfl, hb⟩
      have E := Lib.hid (ext_trans E0.out hb)
      have X := Lib.hid (X0.out.next hb)
      clear hb E0 X0 HZ
      have y0 := X.out.at 0 _ rfl
      have y1 := X.out.at 1 _ rfl
      have y2 := X.out.at 2 _ rfl
      have y3 := X.out.at 3 _ rfl
      have y4 := X.out.at 4 _ rfl
      have y5 := X.out.at 5 _ rfl
      have y6 := X.out.at 6 _ rfl
      have y7 := X.out.at 7 _ rfl
      go_wp2_with fail
      refine (HZN.out _).mono ?_
      rintro e w2 ⟨rfl, hb⟩
      have E := Lib.hid (ext_trans E.out hb)
      have X := Lib.hid (X.out.next hb)
      clear hb HZN
      clear y0 y1 y2 y3 y4 y5 y6 y7
      have HCK : Hid (∀ W : World, Below w2.heap.size w2 W → (W.cell? ⟨w.heap.size, 0, none⟩ = some (.string x.name) ∧ W.cell? ⟨w.heap.size, 1, none⟩ = some (.int .i64 x.kind) ∧ W.cell? ⟨w.heap.size, 2, none⟩ = some (.int .i64 x.num) ∧ W.cell? ⟨w.heap.size, 3, none⟩ = some (.int .i64 x.den) ∧ W.cell? ⟨w.heap.size, 4, none⟩ = some (.slice T x.terms.length ct) ∧ W.cell? ⟨w.heap.size, 5, none⟩ = some (.int .i64 x.sp) ∧ W.cell? ⟨w.heap.size, 6, none⟩ = some (.int .i64 x.sd) ∧ W.cell? ⟨w.heap.size, 7, none⟩ = some (.int .i64 x.sq))) := fun W hb => ⟨(X.out.next hb).at 0 _ rfl, (X.out.next hb).at 1 _ rfl, (X.out.next hb).at 2 _ rfl, (X.out.next hb).at 3 _ rfl, (X.out.next hb).at 4 _ rfl, (X.out.next hb).at 5 _ rfl, (X.out.next hb).at 6 _ rfl, (X.out.next hb).at 7 _ rfl⟩
      go_wp2_with fail
      go_region_held3 (fun W => (W.cell? ⟨w.heap.size, 0, none⟩ = some (.string x.name) ∧ W.cell? ⟨w.heap.size, 1, none⟩ = some (.int .i64 x.kind) ∧ W.cell? ⟨w.heap.size, 2, none⟩ = some (.int .i64 x.num) ∧ W.cell? ⟨w.heap.size, 3, none⟩ = some (.int .i64 x.den) ∧ W.cell? ⟨w.heap.size, 4, none⟩ = some (.slice T x.terms.length ct) ∧ W.cell? ⟨w.heap.size, 5, none⟩ = some (.int .i64 x.sp) ∧ W.cell? ⟨w.heap.size, 6, none⟩ = some (.int .i64 x.sd) ∧ W.cell? ⟨w.heap.size, 7, none⟩ = some (.int .i64 x.sq)))
        (first
          | exact HCK.out _ (ext_drew (Below.refl _ _))
          | exact HCK.out _ C3.out
          | exact HCK.out _ C4.out
          | exact HCK.out _ C5.out)
        (first
          | (go_at_call 12; (with_reducible refine (HTO.out _ (ext_drew E.out)).mono ?_); rintro e w3 ⟨g3, rfl, hw3, hb3⟩; have C3 := Lib.hid (ext_trans (ext_drew (Below.refl w2.heap.size w2)) hb3); have N3 := Lib.hid (hw3.rd.more hw3.1); clear hw3 hb3)
          | (go_at_call 24; (with_reducible refine (HTN.out _ (ext_trans E.out C3.out)).mono ?_); rintro e w4 ⟨B4, d4, rfl, hw4, hb4⟩; have C4 := Lib.hid (ext_trans C3.out hb4); have N4 := Lib.hid (N3.out.next hb4); have T4 := Lib.hid hw4.rd; clear hw4 hb4)
          | (go_at_call 23; (with_reducible refine (HS.out _ _ _ _ N4.out T4.out).mono ?_); rintro e w5 ⟨A0, c0, rfl, hw5, hb5⟩; have C5 := Lib.hid (ext_trans C4.out hb5); have R5 := Lib.hid hw5.rd; clear hw5 hb5))
      have E5 := Lib.hid (ext_trans E.out C5.out)
      have X5 := Lib.hid (X.out.next C5.out)
      clear HCK E X N3 N4 T4 C3 C4 C5 HS
      go_wp2_with fail
      refine (HTO.out _ E5.out).mono ?_
      rintro e w6 ⟨g6, rfl, hw6, hb6⟩
      have E6 := Lib.hid (ext_trans E5.out hb6)
      have X6 := Lib.hid (X5.out.next hb6)
      have N6 := Lib.hid hw6
      have B6 := Lib.hid hb6
      clear hw6 hb6
      have X := X6
      have y0 := X.out.at 0 _ rfl
      have y1 := X.out.at 1 _ rfl
      have y2 := X.out.at 2 _ rfl
      have y3 := X.out.at 3 _ rfl
      have y4 := X.out.at 4 _ rfl
      have y5 := X.out.at 5 _ rfl
      have y6 := X.out.at 6 _ rfl
      have y7 := X.out.at 7 _ rfl
      clear X
      go_wp2_with fail
      refine (HTN.out _ E6.out).mono ?_
      rintro e w7 ⟨B7, d7, rfl, hw7, hb7⟩
      have E7 := Lib.hid (ext_alloc (ext_trans E6.out hb7) (.cells #[.string x.name, .int .i64 x.kind, .int .i64 x.num, .int .i64 x.den, .slice B7 x.terms.length d7, .int .i64 x.sp, .int .i64 x.sd, .int .i64 x.sq] 30))
      have X7 := Lib.hid ((X6.out.next hb7).alloc (.cells #[.string x.name, .int .i64 x.kind, .int .i64 x.num, .int .i64 x.den, .slice B7 x.terms.length d7, .int .i64 x.sp, .int .i64 x.sd, .int .i64 x.sq] 30))
      have Y7 := Lib.hid (BoxV.new w7 #[.string x.name, .int .i64 x.kind, .int .i64 x.num, .int .i64 x.den, .slice B7 x.terms.length d7, .int .i64 x.sp, .int .i64 x.sd, .int .i64 x.sq] 30)
      have B7' := Lib.hid (ext_alloc hb7 (.cells #[.string x.name, .int .i64 x.kind, .int .i64 x.num, .int .i64 x.den, .slice B7 x.terms.length d7, .int .i64 x.sp, .int .i64 x.sd, .int .i64 x.sq] 30))
      have N7 := Lib.hid (N6.out.next (B7'.out.mono N6.out.1))
      have T7 := Lib.hid (hw7.below (ext1 w7 (.cells #[.string x.name, .int .i64 x.kind, .int .i64 x.num, .int .i64 x.den, .slice B7 x.terms.length d7, .int .i64 x.sp, .int .i64 x.sd, .int .i64 x.sq] 30)))
      have L7 : Hid (∀ t o i, B7 = some ⟨t, o, i⟩ → 0 < x.terms.length → t < w7.heap.size) := fun t o i e hn => by
        obtain ⟨tb, to, e2, _, h2, _⟩ := hw7.1 hn
        rw [e] at e2
        injection e2 with e2
        injection e2 with e2
        omega
      have S7 := Lib.hid hb7.size
      clear hw7 hb7 E6 X6 N6 y0 y1 y2 y3 y4 y5 y6 y7
      obtain ⟨b9, hb9⟩ : ∃ b, b = w7.heap.size := ⟨_, rfl⟩
      have HB9 := Lib.hid hb9
      have SZ7 : Hid (b9 < (w7.alloc (.cells #[.string x.name, .int .i64 x.kind, .int .i64 x.num, .int .i64 x.den, .slice B7 x.terms.length d7, .int .i64 x.sp, .int .i64 x.sd, .int .i64 x.sq] 30)).heap.size) := by unfold Hid; rw [hb9]; simp
      rw [← hb9] at Y7 L7 S7
      clear hb9
      have X := Y7
      generalize hW7 : w7.alloc (.cells #[.string x.name, .int .i64 x.kind, .int .i64 x.num, .int .i64 x.den, .slice B7 x.terms.length d7, .int .i64 x.sp, .int .i64 x.sd, .int .i64 x.sq] 30) = W7 at *
      have HW7 := Lib.hid hW7
      clear hW7
      have z0 := X.out.at 0 _ rfl
      have z1 := X.out.at 1 _ rfl
      have z2 := X.out.at 2 _ rfl
      have z3 := X.out.at 3 _ rfl
      have z4 := X.out.at 4 _ rfl
      have z5 := X.out.at 5 _ rfl
      have z6 := X.out.at 6 _ rfl
      have z7 := X.out.at 7 _ rfl
      clear X
      go_wp2_with fail
      rw [← HB9.out, HW7.out]
      refine (HI.out _ _ _ _ (N7.out.rd.more N7.out.1) T7.out.rd).mono ?_
      rintro e w8 ⟨A1, c1, rfl, hw8, hb8⟩
      have h4 : w5.heap.size ≤ w6.heap.size := B6.out.size
      have X5' := Lib.hid X5.out.lt
      have H5 := Lib.hid B7'.out.size
      have H4 := Lib.hid h4
      have D : Hid (Na w w5.heap.size w6.heap.size W7.heap.size w8.heap.size b9 A0 A1 (some ⟨g6, 0, none⟩) xs ys (ntC x T ct) (ntC x B7 d7) B7 d7 x.terms w8) :=
        ⟨⟨ext_trans E7.out hb8, ((R5.out.below B6.out).below (B7'.out.mono h4)).below (hb8.mono (Nat.le_trans h4 B7'.out.size)), hw8, E5.out.size, Nat.le_trans h4 B7'.out.size, hb8.size⟩,
          N7.out.next (hb8.mono N7.out.1), X7.out.next hb8, Y7.out.next hb8, T7.out.below hb8, X5.out.lt, S7.out, SZ7.out, fun t o i e hn => Nat.lt_trans (L7.out t o i e hn) SZ7.out⟩
      clear hw8 hb8 h4 E5 X5 B6 E7 X7 Y7 B7' N7 T7 L7 S7 SZ7 HB9 HW7 R5 z0 z1 z2 z3 z4 z5 z6 z7
      go_wp2_with fail
      refine (HEQY.out _ _ _ _ _ D.out.nl.rg D.out.nl.rr).mono ?_
      rintro e w9 ⟨rfl, hb⟩
      have D := Lib.hid (D.out.next hb)
      clear hb
      go_wp2_with fail
      refine (HTO.out _ D.out.nl.a).mono ?_
      rintro e w10 ⟨g10, rfl, hw10, hb⟩
      have D := Lib.hid (D.out.next hb)
      clear hb
      go_wp2_with fail
      refine (HEQS.out _ _ _ _ _ (D.out.n5.rd.more D.out.n5.1) (hw10.rd.more hw10.1)).mono ?_
      rintro e w11 ⟨rfl, hb⟩
      have D := Lib.hid (D.out.next hb)
      clear hb hw10 HEQS
      have HCK : Hid (∀ W : World, Below w11.heap.size w11 W → (W.cell? ⟨w.heap.size, 0, none⟩ = some (.string x.name) ∧ W.cell? ⟨w.heap.size, 1, none⟩ = some (.int .i64 x.kind) ∧ W.cell? ⟨w.heap.size, 2, none⟩ = some (.int .i64 x.num) ∧ W.cell? ⟨w.heap.size, 3, none⟩ = some (.int .i64 x.den) ∧ W.cell? ⟨w.heap.size, 4, none⟩ = some (.slice T x.terms.length ct) ∧ W.cell? ⟨w.heap.size, 5, none⟩ = some (.int .i64 x.sp) ∧ W.cell? ⟨w.heap.size, 6, none⟩ = some (.int .i64 x.sd) ∧ W.cell? ⟨w.heap.size, 7, none⟩ = some (.int .i64 x.sq)) ∧ (W.cell? ⟨b9, 0, none⟩ = some (.string x.name) ∧ W.cell? ⟨b9, 1, none⟩ = some (.int .i64 x.kind) ∧ W.cell? ⟨b9, 2, none⟩ = some (.int .i64 x.num) ∧ W.cell? ⟨b9, 3, none⟩ = some (.int .i64 x.den) ∧ W.cell? ⟨b9, 4, none⟩ = some (.slice B7 x.terms.length d7) ∧ W.cell? ⟨b9, 5, none⟩ = some (.int .i64 x.sp) ∧ W.cell? ⟨b9, 6, none⟩ = some (.int .i64 x.sd) ∧ W.cell? ⟨b9, 7, none⟩ = some (.int .i64 x.sq))) := fun W hb => ⟨⟨(D.out.next hb).x0.at 0 _ rfl, (D.out.next hb).x0.at 1 _ rfl, (D.out.next hb).x0.at 2 _ rfl, (D.out.next hb).x0.at 3 _ rfl, (D.out.next hb).x0.at 4 _ rfl, (D.out.next hb).x0.at 5 _ rfl, (D.out.next hb).x0.at 6 _ rfl, (D.out.next hb).x0.at 7 _ rfl⟩, ⟨(D.out.next hb).x9.at 0 _ rfl, (D.out.next hb).x9.at 1 _ rfl, (D.out.next hb).x9.at 2 _ rfl, (D.out.next hb).x9.at 3 _ rfl, (D.out.next hb).x9.at 4 _ rfl, (D.out.next hb).x9.at 5 _ rfl, (D.out.next hb).x9.at 6 _ rfl, (D.out.next hb).x9.at 7 _ rfl⟩⟩
      have HY : Hid (∀ W : World, Below w11.heap.size w11 W → Rd (Value.int .i64) W W.heap.size B7 x.terms) := fun W hb => (D.out.next hb).t9.rd.1
      go_wp2_with fail
      go_region_held3 (fun W => (W.cell? ⟨w.heap.size, 0, none⟩ = some (.string x.name) ∧ W.cell? ⟨w.heap.size, 1, none⟩ = some (.int .i64 x.kind) ∧ W.cell? ⟨w.heap.size, 2, none⟩ = some (.int .i64 x.num) ∧ W.cell? ⟨w.heap.size, 3, none⟩ = some (.int .i64 x.den) ∧ W.cell? ⟨w.heap.size, 4, none⟩ = some (.slice T x.terms.length ct) ∧ W.cell? ⟨w.heap.size, 5, none⟩ = some (.int .i64 x.sp) ∧ W.cell? ⟨w.heap.size, 6, none⟩ = some (.int .i64 x.sd) ∧ W.cell? ⟨w.heap.size, 7, none⟩ = some (.int .i64 x.sq)) ∧ (W.cell? ⟨b9, 0, none⟩ = some (.string x.name) ∧ W.cell? ⟨b9, 1, none⟩ = some (.int .i64 x.kind) ∧ W.cell? ⟨b9, 2, none⟩ = some (.int .i64 x.num) ∧ W.cell? ⟨b9, 3, none⟩ = some (.int .i64 x.den) ∧ W.cell? ⟨b9, 4, none⟩ = some (.slice B7 x.terms.length d7) ∧ W.cell? ⟨b9, 5, none⟩ = some (.int .i64 x.sp) ∧ W.cell? ⟨b9, 6, none⟩ = some (.int .i64 x.sd) ∧ W.cell? ⟨b9, 7, none⟩ = some (.int .i64 x.sq)))
        (first
          | exact HCK.out _ (ext_drew (Below.refl _ _))
          | exact HCK.out _ C12.out
          | exact HCK.out _ C13.out)
        (first
          | (go_at_call 24; (with_reducible refine (HTN.out _ (ext_drew D.out.nl.a)).mono ?_); rintro e w12 ⟨B12, d12, rfl, hw12, hb12⟩; have C12 := Lib.hid (ext_trans (ext_drew (Below.refl w11.heap.size w11)) hb12); have T12 := Lib.hid hw12.rd.1; clear hw12 hb12)
          | (go_at_call 14; (with_reducible refine (HEQ.out _ _ _ _ _ (HY.out _ C12.out) T12.out).mono ?_); rintro e w13 ⟨rfl, hb13⟩; have C13 := Lib.hid (ext_trans C12.out hb13); clear hb13))
      have D := Lib.hid (D.out.next C13.out)
      clear HCK HY C12 C13 T12 HEQ
      go_wp2_with fail
      refine (markNoteS_any (some ⟨g6, 0, none⟩) xs.length xs w5.heap.size w6.heap.size 1 w13 D.out.n5 hpos (by omega) (by omega)).mono ?_
      rintro e w14 ⟨rfl, _, hb, hs, hfar⟩
      have D := Lib.hid (D.out.marked H4.out hb hs hfar)
      clear hb hs hfar
      obtain ⟨P, hP⟩ : ∃ P, posN xs xs.length = P := ⟨_, rfl⟩
      rw [hP] at hpos ⊢
      clear hP
      have z0 := D.out.x9.at 0 _ rfl
      have z1 := D.out.x9.at 1 _ rfl
      have z2 := D.out.x9.at 2 _ rfl
      have z3 := D.out.x9.at 3 _ rfl
      have z4 := D.out.x9.at 4 _ rfl
      have z5 := D.out.x9.at 5 _ rfl
      have z6 := D.out.x9.at 6 _ rfl
      have z7 := D.out.x9.at 7 _ rfl
      go_wp2_with fail
      refine (HMK.out B7 d7 w6.heap.size (1 + P) w14 D.out.t9 (by omega) (by omega)).mono ?_
      rintro e w15 ⟨rfl, w15', hb0, hb, hs, ho⟩
      have D' := D.out.marked hb0 hb hs ho
      have D := Lib.hid D'.1
      have X := Lib.hid D'.2
      clear hb hs ho hb0 D' z0 z1 z2 z3 z4 z5 z6 z7 HMK
      have hk0 : ¬ ((1 : Int) + (P : Int) + (x.terms.length : Int) < 0) := by omega
      go_wp2_with fail
      refine (HEQY.out _ _ _ _ _ D.out.rg D.out.rr).mono ?_
      rintro e w16 ⟨rfl, hb⟩
      have D := Lib.hid (D.out.next hb)
      have X := Lib.hid (X.out.next hb)
      clear hb hk0 hpos
      go_wp2_with fail
      refine (markNoteS_any A1 c1 ys W7.heap.size w8.heap.size 1 w16 D.out.g hposy (by omega) (by omega)).mono ?_
      rintro e w17 ⟨rfl, hg, hb, hs, _⟩
      have X := Lib.hid (X.out.under hb (Nat.lt_of_lt_of_le X5'.out (Nat.le_trans H4.out H5.out)))
      have D := Lib.hid (D.out.remark hg hb hs)
      clear hg hb hs
      go_wp2_with fail
      refine (heldNoteS_any A1 c1 ys 1 w17 D.out.rg hposy (by omega) (by omega)).mono ?_
      rintro e w18 ⟨rfl, hb⟩
      have D := Lib.hid (D.out.next hb)
      have X := Lib.hid (X.out.next hb)
      clear hb
      have hn0 : ¬ ((1 : Int) + (posN ys ys.length : Int) < 0) := by omega
      have HCK : Hid (∀ W : World, Below w18.heap.size w18 W → (W.cell? ⟨w.heap.size, 0, none⟩ = some (.string x.name) ∧ W.cell? ⟨w.heap.size, 1, none⟩ = some (.int .i64 x.kind) ∧ W.cell? ⟨w.heap.size, 2, none⟩ = some (.int .i64 x.num) ∧ W.cell? ⟨w.heap.size, 3, none⟩ = some (.int .i64 x.den) ∧ W.cell? ⟨w.heap.size, 4, none⟩ = some (.slice T x.terms.length ct) ∧ W.cell? ⟨w.heap.size, 5, none⟩ = some (.int .i64 x.sp) ∧ W.cell? ⟨w.heap.size, 6, none⟩ = some (.int .i64 x.sd) ∧ W.cell? ⟨w.heap.size, 7, none⟩ = some (.int .i64 x.sq))) := fun W hb => ⟨(X.out.next hb).at 0 _ rfl, (X.out.next hb).at 1 _ rfl, (X.out.next hb).at 2 _ rfl, (X.out.next hb).at 3 _ rfl, (X.out.next hb).at 4 _ rfl, (X.out.next hb).at 5 _ rfl, (X.out.next hb).at 6 _ rfl, (X.out.next hb).at 7 _ rfl⟩
      go_wp2_with fail
      go_region_held3 (fun W => (W.cell? ⟨w.heap.size, 0, none⟩ = some (.string x.name) ∧ W.cell? ⟨w.heap.size, 1, none⟩ = some (.int .i64 x.kind) ∧ W.cell? ⟨w.heap.size, 2, none⟩ = some (.int .i64 x.num) ∧ W.cell? ⟨w.heap.size, 3, none⟩ = some (.int .i64 x.den) ∧ W.cell? ⟨w.heap.size, 4, none⟩ = some (.slice T x.terms.length ct) ∧ W.cell? ⟨w.heap.size, 5, none⟩ = some (.int .i64 x.sp) ∧ W.cell? ⟨w.heap.size, 6, none⟩ = some (.int .i64 x.sd) ∧ W.cell? ⟨w.heap.size, 7, none⟩ = some (.int .i64 x.sq)))
        (first
          | exact HCK.out _ (ext_drew (Below.refl _ _))
          | exact HCK.out _ C19.out
          | exact HCK.out _ C20.out
          | exact HCK.out _ C21.out)
        (first
          | (go_at_call 12; (with_reducible refine (HTO.out _ (ext_drew D.out.a)).mono ?_); rintro e w19 ⟨g19, rfl, hw19, hb19⟩; have C19 := Lib.hid (ext_trans (ext_drew (Below.refl w18.heap.size w18)) hb19); have N19 := Lib.hid (hw19.rd.more hw19.1); clear hw19 hb19)
          | (go_at_call 24; (with_reducible refine (HTN.out _ (ext_trans D.out.a C19.out)).mono ?_); rintro e w20 ⟨B20, d20, rfl, hw20, hb20⟩; have C20 := Lib.hid (ext_trans C19.out hb20); have N20 := Lib.hid (N19.out.next hb20); have T20 := Lib.hid hw20.rd; clear hw20 hb20)
          | (go_at_call 25; (with_reducible refine (HI.out _ _ _ _ N20.out T20.out).mono ?_); rintro e w21 ⟨A21, c21, rfl, hw21, hb21⟩; have C21 := Lib.hid (ext_trans C20.out hb21); have R21 := Lib.hid (hw21.rd.more hw21.1); clear hw21 hb21))
      have D := Lib.hid (D.out.next C21.out)
      clear HCK X N19 N20 T20 C19 C20 C21 HI HTO HTN
      go_wp2_with fail
      refine (HEQY.out _ _ _ _ _ R21.out D.out.rr).mono ?_
      rintro e w22 ⟨rfl, hb⟩
      have D := Lib.hid (D.out.next hb)
      clear hb HEQY R21
      go_wp2_with fail
      refine (heldNoteS_any A1 c1 ys 1 w22 D.out.rg hposy (by omega) (by omega)).mono ?_
      rintro e w23 ⟨rfl, hb⟩
      have D := Lib.hid (D.out.next hb)
      clear hb
      go_wp2
      go_ret
      exact ⟨rfl, D.out.a⟩
    · rw [if_neg h2] at HZN
      unfold ntV at *
      go_enter Try.func5, Try.ntmps5
      go_wp2_with fail
      refine (HZ.out _ E0.out).mono ?_
      rintro e w1 ⟨rfl, hb⟩
      have E := Lib.hid (ext_trans E0.out hb)
      have X := Lib.hid (X0.out.next hb)
      clear hb E0 X0 HZ
      have y0 := X.out.at 0 _ rfl
      have y1 := X.out.at 1 _ rfl
      have y2 := X.out.at 2 _ rfl
      have y3 := X.out.at 3 _ rfl
      have y4 := X.out.at 4 _ rfl
      have y5 := X.out.at 5 _ rfl
      have y6 := X.out.at 6 _ rfl
      have y7 := X.out.at 7 _ rfl
      go_wp2_with fail
      refine (HZN.out _).mono ?_
      rintro e w2 ⟨rfl, hb⟩
      go_wp2
      go_ret
      exact ⟨rfl, ext_trans E.out hb⟩
  · rw [if_neg h1] at HZ
    unfold ntV at *
    go_enter Try.func5, Try.ntmps5
    go_wp2_with fail
    refine (HZ.out _ E0.out).mono ?_
    rintro e w1 ⟨rfl, hb1⟩
    go_wp2
    go_ret
    exact ⟨rfl, ext_trans E0.out hb1⟩
theorem walk (A : Option Addr) (l c : Nat) (xs : List Nt) (x : Nt) (T : Option Addr) (ct : Nat) (w : World) (hx : IsNt w A l xs) (hy : IsNt1 w x T ct) :
    Calls Try.prog 5 #[.slice A l c, ntV x.name x.kind x.num x.den T x.terms.length ct x.sp x.sd x.sq] w fun e w' => e = .returned (.bool true) ∧ Below w.heap.size w w' := by
  obtain ⟨rfl, h1, h2, h3⟩ := hx
  exact walkG A c xs x T ct w h3 h2 h1 hy.2 hy.1

theorem own : ownKnob Try.prog.godebug = none := by kernel_rfl
theorem laidOut : laidOutB Try.prog = true := by kernel_rfl
set_option linter.unusedVariables false in
set_option maxRecDepth 100000 in
theorem lifted (os : Os) (started : os.Started) (H : Type) (enc : TypeId × Value → H) :
    ReturnsInHanded {} Try.checked os 5 .any (Rows.fnExactAddNoteSpec.pre6 enc Try.prog Try.f5 Rows.fnExactAddNoteRow.domain false) (Rows.fnExactAddNoteSpec.post enc Try.prog Try.f5 false true false false) := by
  refine returnsInHanded_of_change (C := Try.checked) own started (by kernel_rfl) Try.func5
    (ChangeSpec.witness6 (enc := enc) (C := Try.checked) false ⟨#[], #[.slice none 0 0, .agg #[.string ByteArray.empty, .int .i64 0, .int .i64 0, .int .i64 0, .slice none 0 0, .int .i64 0, .int .i64 0, .int .i64 0]], []⟩ 8 (by kernel_rfl) (by kernel_rfl) (by kernel_rfl) (by kernel_rfl)) ?_
  intro W base args ds gs before hval0 hW hcnd _
  have hval : ∀ (j : Nat) t v, Try.f5.params[j]? = some t → args[j]? = some v → Value.okWide Try.prog W .any base t v := hval0
  have hW' := hW
  obtain ⟨p, q, hA0, hV, rfl, hfz, hnd⟩ := hW
  have hA : DataW.TrodAll enc Try.prog W 0 (fun _ => true) true Try.f5.params.toList args.toList ds p := hA0
  rw [Try.params5] at hA hval
  obtain ⟨v0, vs0, d0, ds0, p0, q0, hargs, rfl, rfl, h0, r0⟩ := trodAll_cons hA
  obtain ⟨v1, vs1, d1, ds1, p1, q1, rfl, rfl, rfl, h1, r1⟩ := trodAll_cons r0
  obtain ⟨rfl, rfl, rfl⟩ := trodAll_nil r1
  obtain rfl : args = #[v0, v1] := by cases args; simp_all
  obtain ⟨rfl, rfl⟩ := trodVars_none hV
  have k0 := h0
  have lt0 : ∀ x ∈ p0, x.block < W.heap.size := by obtain ⟨m, hm⟩ := k0; exact DataW.trod_lt m _ _ _ hm
  obtain ⟨A0, l0, c0, rfl⟩ := okWide_slice Try.underlying22 (hval 0 22 v0 rfl rfl)
  obtain ⟨z0, w0⟩ : ∃ zs, IsNt W A0 l0 zs := isNt_arg h0
  have k1 := h1
  have lt1 : ∀ x ∈ p1, x.block < W.heap.size := by obtain ⟨m, hm⟩ := k1; exact DataW.trod_lt m _ _ _ hm
  obtain ⟨y1, T1, c1, rfl, w1⟩ := open_note (hval 1 45 v1 rfl rfl) h1
  clear hA0 hval0
  refine (walk A0 l0 c0 z0 y1 T1 c1 W w0 w1).mono fun e W' ⟨he, bel⟩ => ?_
  subst he
  exact ⟨_, rfl, _, _, _, [], _, [], hW', trodAll_mk1 (shut_bool Try.underlying4 _), (trodAll_cons_mk (Below.trod laidOut (by kernel_rfl) (of_decide_eq_true (by kernel_rfl)) k0 bel lt0) (trodAll_cons_mk (Below.trod laidOut (by kernel_rfl) (of_decide_eq_true (by kernel_rfl)) k1 bel lt1) trodAll_mk0)), rfl, bel.frame _, fun h => by cases h⟩

theorem jPlace : (Rows.fnExactAddNoteRow.inPlace == Try.prog.inPlace 5) = true := by kernel_rfl
theorem jFollow : (Rows.fnExactAddNoteRow.unfollowed == Try.prog.unfollowed 5) = true := by kernel_rfl
theorem jRecurse : (Rows.fnExactAddNoteRow.recurses == Try.prog.recurses 5) = true := by kernel_rfl
theorem jNamed : (Rows.fnExactAddNoteRow.named == Try.prog.varsNamed 5) = true := by kernel_rfl
theorem joined : joinedFacts Try.prog 5 Try.f5 Rows.fnExactAddNoteSpec Rows.fnExactAddNoteRow = true :=
  joined_of (by kernel_rfl) (by kernel_rfl) (by kernel_rfl) (by kernel_rfl) (by kernel_rfl) jPlace jFollow jRecurse jNamed (by kernel_rfl) (by kernel_rfl) (by kernel_rfl) (by kernel_rfl) (by kernel_rfl) (by kernel_rfl) (by kernel_rfl) (by kernel_rfl) (by kernel_rfl) rfl rfl rfl rfl rfl rfl (by kernel_rfl) (by kernel_rfl) (by kernel_rfl)
theorem over : Rows.fnExactAddNoteRow.holds Try.pinned (OpenSpec.ofChange Rows.fnExactAddNoteSpec) :=
  OpenClaim.holds_of_wide 5 Try.f5 rfl rfl rfl rfl rfl rfl rfl ⟨rfl, rfl, rfl, rfl, rfl⟩ rfl rfl rfl rfl rfl (by kernel_rfl) Try.func5 joined
    (of_decide_eq_true (by kernel_rfl)) (by unfold Func.isWrapper; first | (rw [if_pos (by decide +kernel)]; kernel_rfl) | (rw [if_neg (by decide +kernel)]; exact ⟨rfl, rfl⟩))
    (fun os started H enc _ => lifted os started H enc)

theorem proved : Rows.FnExactAddNoteSaid := over
#print axioms proved
end Go.Proofs.Ytdjnblkgeaphmaa.fnExactAddNote
