/- What the statements on notes draw: a note and a number, two notes. No condition but those that each theorem names. -/
import Derived.Test.YtkimmahmbacjpaaDrawNdW
import Derived.Test.YtkimmahmbacjpaaOwnNtS
namespace Go.Proofs.Ytkimmahmbacjpaa
open Go.RowKit Go.Sort

@[reducible] def S8 (b : Nat) (x : Nt) (A : Option Addr) (c : Nat) (W : World) : Prop := W.cell? ⟨b, 0, none⟩ = some (.string x.name) ∧ W.cell? ⟨b, 1, none⟩ = some (.int .i64 x.kind) ∧ W.cell? ⟨b, 2, none⟩ = some (.int .i64 x.num) ∧ W.cell? ⟨b, 3, none⟩ = some (.int .i64 x.den) ∧ W.cell? ⟨b, 4, none⟩ = some (.slice A x.terms.length c) ∧ W.cell? ⟨b, 5, none⟩ = some (.int .i64 x.sp) ∧ W.cell? ⟨b, 6, none⟩ = some (.int .i64 x.sd) ∧ W.cell? ⟨b, 7, none⟩ = some (.int .i64 x.sq)
theorem S8.of {b : Nat} {x : Nt} {A : Option Addr} {c : Nat} {W : World} (h : BoxV b (ntL x (.slice A x.terms.length c)) W) : S8 b x A c W := ⟨h.at 0 _ rfl, h.at 1 _ rfl, h.at 2 _ rfl, h.at 3 _ rfl, h.at 4 _ rfl, h.at 5 _ rfl, h.at 6 _ rfl, h.at 7 _ rfl⟩
theorem S8.set {b i j : Nat} {x : Nt} {A : Option Addr} {c : Nat} {W : World} (t : S8 b x A c W) (hi : b ≠ i) (u : Value) : S8 b x A c (W.setCell ⟨i, j, none⟩ u) := by
  have o : ∀ k, (W.setCell ⟨i, j, none⟩ u).cell? ⟨b, k, none⟩ = W.cell? ⟨b, k, none⟩ := fun k => World.cell?_setCell_other _ _ _ _ (by intro e; injection e; omega)
  exact ⟨(o 0).trans t.1, (o 1).trans t.2.1, (o 2).trans t.2.2.1, (o 3).trans t.2.2.2.1, (o 4).trans t.2.2.2.2.1, (o 5).trans t.2.2.2.2.2.1, (o 6).trans t.2.2.2.2.2.2.1, (o 7).trans t.2.2.2.2.2.2.2⟩
theorem S8.set8 {b i : Nat} {x : Nt} {A : Option Addr} {c : Nat} {W : World} (t : S8 b x A c W) (hi : b ≠ i) (a0 a1 a2 a3 a4 a5 a6 a7 : Value) : S8 b x A c ((((((((W.setCell ⟨i, 0, none⟩ a0).setCell ⟨i, 1, none⟩ a1).setCell ⟨i, 2, none⟩ a2).setCell ⟨i, 3, none⟩ a3).setCell ⟨i, 4, none⟩ a4).setCell ⟨i, 5, none⟩ a5).setCell ⟨i, 6, none⟩ a6).setCell ⟨i, 7, none⟩ a7) := by
  iterate 8 (refine S8.set ?_ hi _)
  exact t
theorem own_rdT {W : World} {base : Nat} {A : Option Addr} {c n : Nat} {xs : List Int} (h : W.ownsRow base 2 1 (.slice A n c) n (xs.map (Value.int .i64))) : WrT W base A c xs := by
  obtain ⟨rfl, A2, c2, e, hw⟩ := Wr.of_own h
  injection e with e1 e2 e3
  subst e1
  refine ⟨hw, ?_⟩
  rcases h.2 with ⟨h1, h0⟩ | ⟨g, cap, cur, h1, _, _, hc, hm, _⟩
  · injection h1 with _ _ h1
    subst h1
    exact ⟨by omega, by unfold maxLen; omega⟩
  · injection h1 with _ _ h1
    subst h1
    exact ⟨hc, hm⟩
/-- The state of a draw of notes: k boxes for what is returned, the source behind them, a note's box, its terms. -/
structure SK (k N b : Nat) (x : Nt) (v : Value) (w W : World) : Prop where
  src : Src (w.heap.size + k) (w.heap.size + k) N W
  r : ∀ i, i < k → BoxV (w.heap.size + i) ntZ W
  bel : Below w.heap.size w W
  s : BoxV b (ntL x v) W
  row : W.ownsRow (w.heap.size + k + 1) 2 1 v x.terms.length (x.terms.map (Value.int .i64))
  hb : w.heap.size + k < b
section
variable {k N M b : Nat} {x : Nt} {v : Value} {w W W' : World}
theorem SK.kept (t : SK k N b x v w W) (hs : Src (w.heap.size + k) (w.heap.size + k) M W') (h : Keep (w.heap.size + k) W W') : SK k M b x v w W' :=
  ⟨hs, fun i hi => (t.r i hi).keepK h (by omega), t.bel.trans (h.1.mono (by omega)), t.s.keepK h (by have := t.hb; omega), own_kept t.row h (by omega), t.hb⟩
theorem SK.next (t : SK k N b x v w W) (hb : Below W.heap.size W W') : SK k N b x v w W' := t.kept (t.src.next hb) (Keep.of hb t.src.lt)
theorem Wr.setFarLow {α : Type} {enc : α → Value} {A : Option Addr} {xs : List α} {B i j : Nat} {u : Value} {W : World} (h : Wr enc W B A xs) (hi : i < B) : Wr enc (W.setCell ⟨i, j, none⟩ u) B A xs := fun hn => by
  obtain ⟨b, off, e, h1, h2, hc, hf⟩ := h hn
  exact ⟨b, off, e, h1, by simpa using h2, fun m y hy => (World.cell?_setCell_other _ _ _ _ (by intro e; injection e; omega)).trans (hc m y hy), fun m => (World.frozen?_setCell _ _ _ _).trans (hf m)⟩
/-- Behind the stores of a note into box i. -/
theorem Below.set8 {B i : Nat} {w W : World} (h : Below B w W) (hi : B ≤ i) (a0 a1 a2 a3 a4 a5 a6 a7 : Value) : Below B w ((((((((W.setCell ⟨i, 0, none⟩ a0).setCell ⟨i, 1, none⟩ a1).setCell ⟨i, 2, none⟩ a2).setCell ⟨i, 3, none⟩ a3).setCell ⟨i, 4, none⟩ a4).setCell ⟨i, 5, none⟩ a5).setCell ⟨i, 6, none⟩ a6).setCell ⟨i, 7, none⟩ a7) := by
  iterate 8 (refine Below.setCell ?_ (by simpa using hi) _)
  exact h
theorem Wr.set8 {α : Type} {enc : α → Value} {A : Option Addr} {xs : List α} {B i : Nat} {W : World} (h : Wr enc W B A xs) (hi : i < B) (a0 a1 a2 a3 a4 a5 a6 a7 : Value) : Wr enc ((((((((W.setCell ⟨i, 0, none⟩ a0).setCell ⟨i, 1, none⟩ a1).setCell ⟨i, 2, none⟩ a2).setCell ⟨i, 3, none⟩ a3).setCell ⟨i, 4, none⟩ a4).setCell ⟨i, 5, none⟩ a5).setCell ⟨i, 6, none⟩ a6).setCell ⟨i, 7, none⟩ a7) B A xs := by
  iterate 8 (refine Wr.setFarLow ?_ hi)
  exact h
end
/-- What the draws return. -/
def RetTn (w : World) (e : Ending) (w' : World) : Prop := ∃ (x : Nt) (A : Option Addr) (c : Nat) (q : Int), e = .returned (.tuple #[ntV x.name x.kind x.num x.den A x.terms.length c x.sp x.sd x.sq, .int .i64 q]) ∧ x.name.size ≤ 10 ∧ x.terms.length ≤ 10 ∧ RdT w' w'.heap.size A c x.terms ∧ Below w.heap.size w w'
def RetCn (w : World) (e : Ending) (w' : World) : Prop := ∃ (x y : Nt) (A B : Option Addr) (c d : Nat), e = .returned (.tuple #[ntV x.name x.kind x.num x.den A x.terms.length c x.sp x.sd x.sq, ntV y.name y.kind y.num y.den B y.terms.length d y.sp y.sd y.sq]) ∧ (x.name.size ≤ 10 ∧ x.terms.length ≤ 10) ∧ (y.name.size ≤ 10 ∧ y.terms.length ≤ 10) ∧ RdT w' w'.heap.size A c x.terms ∧ RdT w' w'.heap.size B d y.terms ∧ Below w.heap.size w w'
set_option maxRecDepth 100000 in
set_option maxHeartbeats 4000000 in
theorem drawTermsOfNote_any (A : Option Addr) (n c : Nat) (w : World) (h : Bytes w A n) :
    Calls Try.prog 11 #[.slice A n c] w (RetTn w) := by
  have H := Lib.hid h
  clear h
  go_enter Try.func11, Try.ntmps11
  go_wp2_with fail
  refine (l00From_bytes A n c _ (H.out.next (ext1 _ _))).mono ?_
  rintro e w1 ⟨rfl, S1, hb1⟩
  have R1 := Lib.hid ((BoxV.new w #[.string ⟨#[]⟩, .int .i64 0, .int .i64 0, .int .i64 0, .slice none 0 0, .int .i64 0, .int .i64 0, .int .i64 0] 36).next hb1)
  have B1 := Lib.hid (ext_trans (ext1 w (.cells #[.string ⟨#[]⟩, .int .i64 0, .int .i64 0, .int .i64 0, .slice none 0 0, .int .i64 0, .int .i64 0, .int .i64 0] 36)) hb1)
  simp only [World.size_alloc] at S1 ⊢
  have HS1 := Lib.hid S1
  clear S1 hb1
  go_wp2_with fail
  refine (l27Bent_any _ _ _ ⟨#[97]⟩ _ HS1.out (by omega)).mono ?_
  rintro e w2 ⟨x, v, rfl, hsz, htl, hrow, S2, K2⟩
  obtain ⟨A, c, rfl⟩ := own_slice hrow
  have h2z := S2.lt
  have hlt1 := HS1.out.lt
  have T : Hid (SK 1 (0 + 140) w2.heap.size x (.slice A x.terms.length c) w (w2.alloc (.cells #[.string x.name, .int .i64 x.kind, .int .i64 x.num, .int .i64 x.den, .slice A x.terms.length c, .int .i64 x.sp, .int .i64 x.sd, .int .i64 x.sq] 36))) := by
    have e1 := ext1 w2 (.cells #[.string x.name, .int .i64 x.kind, .int .i64 x.num, .int .i64 x.den, .slice A x.terms.length c, .int .i64 x.sp, .int .i64 x.sd, .int .i64 x.sq] 36)
    exact ⟨S2.next e1, fun i hi => by
      obtain rfl : i = 0 := by omega
      exact (R1.out.keepK K2 (by omega)).next e1, ext_trans (B1.out.trans (K2.1.mono (by omega))) e1, BoxV.new _ _ _, (hrow.mono (by omega)).alloc _, h2z⟩
  have HSZ : Hid (x.name.size ≤ 10) := by
    have h : (⟨#[97]⟩ : ByteArray).size = 1 := rfl
    unfold Hid
    omega
  clear hrow S2 K2 R1 B1 HS1 hsz hlt1
  go_wp2_with fail
  generalize w2.alloc (.cells #[.string x.name, .int .i64 x.kind, .int .i64 x.num, .int .i64 x.den, .slice A x.terms.length c, .int .i64 x.sp, .int .i64 x.sd, .int .i64 x.sq] 36) = W2 at *
  refine (srcOne_any _ _ _ 10 _ T.out.src (by omega) (by omega)).mono ?_
  rintro e w3 ⟨bb, rfl, S3, K3⟩
  have T := Lib.hid (T.out.kept S3 K3)
  clear S3 K3
  generalize w2.heap.size = b at *
  have HS := Lib.hid T.out.src
  have X8 : S8 b x A c w3.drew := S8.of T.out.s.drew
  have hbi : b ≠ w.heap.size := by omega
  have HTK : Hid (∀ (M : Nat) (W : World), Src (w.heap.size + 1) (w.heap.size + 1) M W → Keep (w.heap.size + 1) w3.drew W → SK 1 M b x (.slice A x.terms.length c) w W) := fun M W hs k => (T.out.next (ext_drew (Below.refl _ _))).kept hs k
  have HKK : Hid (∀ W : World, Keep (w.heap.size + 1) w3.drew W → S8 b x A c W) := fun W k => S8.of ((T.out.s.drew).keepK k (by omega))
  have h3z := T.out.src.lt
  have HFIN : Hid (∀ (q : Int) (M : Nat) (W : World) (a0 a1 a2 a3 a4 a5 a6 a7 : Value), SK 1 M b x (.slice A x.terms.length c) w W → RetTn w (.returned (.tuple #[ntV x.name x.kind x.num x.den A x.terms.length c x.sp x.sd x.sq, .int .i64 q])) ((((((((W.setCell ⟨w.heap.size, 0, none⟩ a0).setCell ⟨w.heap.size, 1, none⟩ a1).setCell ⟨w.heap.size, 2, none⟩ a2).setCell ⟨w.heap.size, 3, none⟩ a3).setCell ⟨w.heap.size, 4, none⟩ a4).setCell ⟨w.heap.size, 5, none⟩ a5).setCell ⟨w.heap.size, 6, none⟩ a6).setCell ⟨w.heap.size, 7, none⟩ a7)) := fun q M W a0 a1 a2 a3 a4 a5 a6 a7 t => by
    have hr := own_rdT t.row
    exact ⟨x, A, c, q, rfl, HSZ.out, htl, ⟨(Wr.set8 hr.1 (by omega) _ _ _ _ _ _ _ _).rd, hr.2⟩, Below.set8 t.bel (Nat.le_refl _) _ _ _ _ _ _ _ _⟩
  have HNE : Hid (∀ b o, some (⟨w3.heap.size, 0, none⟩ : Addr) = some ⟨b, o, none⟩ → b ≠ w.heap.size + 1) := fun b o e => by
    injection e with e
    injection e with e1 e2
    have e4 : w3.heap.size = b := e1
    omega
  have hka : Keep (w.heap.size + 1) w3.drew (w3.drew.alloc (.cells #[.int .i64 (-1), .int .i64 0, .int .i64 200, .int .i64 201] 2)) := Keep.of (ext1 _ _) (by show _ < w3.heap.size; omega)
  have HKA : Hid (Keep (w.heap.size + 1) w3.drew ((w3.alloc (.cells #[.int .i64 (-1), .int .i64 0, .int .i64 200, .int .i64 201] 2)).drew)) := hka
  have HAM : Hid (Calls Try.prog 34 #[.pointer (some ⟨w.heap.size + 1, 0, none⟩), .slice (some ⟨w3.heap.size, 0, none⟩) 4 4] ((w3.alloc (.cells #[.int .i64 (-1), .int .i64 0, .int .i64 200, .int .i64 201] 2)).drew) (fun e w' => ∃ x, x ∈ ([-1, 0, 200, 201] : List Int) ∧ e = .returned (.int .i64 x) ∧ Src (w.heap.size + 1) (w.heap.size + 1) (0 + 140 + 2 + 2) w' ∧ Keep (w.heap.size + 1) ((w3.alloc (.cells #[.int .i64 (-1), .int .i64 0, .int .i64 200, .int .i64 201] 2)).drew) w')) :=
    srcAmong_any (w.heap.size + 1) (w.heap.size + 1) _ (some ⟨w3.heap.size, 0, none⟩) 4 [-1, 0, 200, 201] _ ((HS.out.next (ext1 w3 _)).next (ext_drew (Below.refl _ _))) (by omega) (rd_lit w3 #[.int .i64 (-1), .int .i64 0, .int .i64 200, .int .i64 201] 2 _ rfl) HNE.out (by simp) (by simp)
  clear T HNE hka
  cases bb
  · go_wp2_with fail
    go_region_held3 (fun W => W.cell? ⟨b, 0, none⟩ = some (.string x.name) ∧ W.cell? ⟨b, 1, none⟩ = some (.int .i64 x.kind) ∧ W.cell? ⟨b, 2, none⟩ = some (.int .i64 x.num) ∧ W.cell? ⟨b, 3, none⟩ = some (.int .i64 x.den) ∧ W.cell? ⟨b, 4, none⟩ = some (.slice A x.terms.length c) ∧ W.cell? ⟨b, 5, none⟩ = some (.int .i64 x.sp) ∧ W.cell? ⟨b, 6, none⟩ = some (.int .i64 x.sd) ∧ W.cell? ⟨b, 7, none⟩ = some (.int .i64 x.sq))
      (first | with_reducible exact X8 | with_reducible exact HKK.out _ K6 | with_reducible exact S8.set8 (HKK.out _ K6) hbi _ _ _ _ _ _ _ _)
      (first | (go_at_call 35; (with_reducible refine (srcPick_any (w.heap.size + 1) (w.heap.size + 1) _ 20 _ (HS.out.next (ext_drew (Below.refl _ _))) (by omega) (by omega)).mono ?_); rintro e w6 ⟨q, q1, q2, rfl, S6, K6⟩; have T6 := Lib.hid (HTK.out _ _ S6 K6); have B6 : BoxV w.heap.size ntZ _ := T6.out.r 0 (by omega); have r0 := B6.at 0 _ rfl; have rf0 := B6.f 0; have r1 := B6.at 1 _ rfl; have rf1 := B6.f 1; have r2 := B6.at 2 _ rfl; have rf2 := B6.f 2; have r3 := B6.at 3 _ rfl; have rf3 := B6.f 3; have r4 := B6.at 4 _ rfl; have rf4 := B6.f 4; have r5 := B6.at 5 _ rfl; have rf5 := B6.f 5; have r6 := B6.at 6 _ rfl; have rf6 := B6.f 6; have r7 := B6.at 7 _ rfl; have rf7 := B6.f 7))
    have HE6 := Lib.hid (fun a0 a1 a2 a3 a4 a5 a6 a7 => HFIN.out q _ _ a0 a1 a2 a3 a4 a5 a6 a7 T6.out)
    clear T6 HFIN HTK HKK HAM
    go_wp2
    refine bodyPost_ret ?_ rfl (HE6.out _ _ _ _ _ _ _ _)
    simp [results, Try.results11, go_sem, r0, r1, r2, r3, r4, r5, r6, r7]
  · go_wp2_with fail
    go_region_held3 (fun W => W.cell? ⟨b, 0, none⟩ = some (.string x.name) ∧ W.cell? ⟨b, 1, none⟩ = some (.int .i64 x.kind) ∧ W.cell? ⟨b, 2, none⟩ = some (.int .i64 x.num) ∧ W.cell? ⟨b, 3, none⟩ = some (.int .i64 x.den) ∧ W.cell? ⟨b, 4, none⟩ = some (.slice A x.terms.length c) ∧ W.cell? ⟨b, 5, none⟩ = some (.int .i64 x.sp) ∧ W.cell? ⟨b, 6, none⟩ = some (.int .i64 x.sd) ∧ W.cell? ⟨b, 7, none⟩ = some (.int .i64 x.sq))
      (first | with_reducible exact X8 | with_reducible exact HKK.out _ HKA.out | with_reducible exact HKK.out _ K7 | with_reducible exact S8.set8 (HKK.out _ K7) hbi _ _ _ _ _ _ _ _)
      (first | (go_at_call 34; (with_reducible refine HAM.out.mono ?_); rintro e w6 ⟨q, hq, rfl, S6, K6⟩; have K7 := HKA.out.trans K6; have T6 := Lib.hid (HTK.out _ _ S6 K7); have B6 : BoxV w.heap.size ntZ _ := T6.out.r 0 (by omega); have r0 := B6.at 0 _ rfl; have rf0 := B6.f 0; have r1 := B6.at 1 _ rfl; have rf1 := B6.f 1; have r2 := B6.at 2 _ rfl; have rf2 := B6.f 2; have r3 := B6.at 3 _ rfl; have rf3 := B6.f 3; have r4 := B6.at 4 _ rfl; have rf4 := B6.f 4; have r5 := B6.at 5 _ rfl; have rf5 := B6.f 5; have r6 := B6.at 6 _ rfl; have rf6 := B6.f 6; have r7 := B6.at 7 _ rfl; have rf7 := B6.f 7))
    have HE6 := Lib.hid (fun a0 a1 a2 a3 a4 a5 a6 a7 => HFIN.out q _ _ a0 a1 a2 a3 a4 a5 a6 a7 T6.out)
    clear T6 HFIN HTK HKK HAM
    go_wp2
    refine bodyPost_ret ?_ rfl (HE6.out _ _ _ _ _ _ _ _)
    simp [results, Try.results11, go_sem, r0, r1, r2, r3, r4, r5, r6, r7]
set_option maxRecDepth 100000 in
set_option maxHeartbeats 8000000 in
theorem drawCompareNotes_any (A : Option Addr) (n c : Nat) (w : World) (h : Bytes w A n) :
    Calls Try.prog 14 #[.slice A n c] w (RetCn w) := by
  have H := Lib.hid h
  clear h
  go_enter Try.func14, Try.ntmps14
  go_wp2_with fail
  refine (l00From_bytes A n c _ (H.out.next (ext_alloc (ext1 _ _) _))).mono ?_
  rintro e w1 ⟨rfl, S1, hb1⟩
  have R0 := Lib.hid (((BoxV.new w #[.string ⟨#[]⟩, .int .i64 0, .int .i64 0, .int .i64 0, .slice none 0 0, .int .i64 0, .int .i64 0, .int .i64 0] 36).alloc (.cells #[.string ⟨#[]⟩, .int .i64 0, .int .i64 0, .int .i64 0, .slice none 0 0, .int .i64 0, .int .i64 0, .int .i64 0] 36)).next hb1)
  have R1 : Hid (BoxV (w.heap.size + 1) ntZ w1) := by
    have h := (BoxV.new (w.alloc (.cells #[.string ⟨#[]⟩, .int .i64 0, .int .i64 0, .int .i64 0, .slice none 0 0, .int .i64 0, .int .i64 0, .int .i64 0] 36)) #[.string ⟨#[]⟩, .int .i64 0, .int .i64 0, .int .i64 0, .slice none 0 0, .int .i64 0, .int .i64 0, .int .i64 0] 36).next hb1
    simp only [World.size_alloc] at h
    exact h
  have B1 := Lib.hid (ext_trans (ext_alloc (ext1 w (.cells #[.string ⟨#[]⟩, .int .i64 0, .int .i64 0, .int .i64 0, .slice none 0 0, .int .i64 0, .int .i64 0, .int .i64 0] 36)) (.cells #[.string ⟨#[]⟩, .int .i64 0, .int .i64 0, .int .i64 0, .slice none 0 0, .int .i64 0, .int .i64 0, .int .i64 0] 36)) hb1)
  simp only [World.size_alloc] at S1 ⊢
  have HS1 : Hid (Src (w.heap.size + 2) (w.heap.size + 2) 0 w1) := S1
  clear S1 hb1
  go_wp2_with fail
  refine (l27Bent_any (w.heap.size + 2) _ _ ⟨#[97]⟩ _ HS1.out (by omega)).mono ?_
  rintro e w2 ⟨x, v, rfl, hsz, htl, hrow, S2, K2⟩
  obtain ⟨A, c, rfl⟩ := own_slice hrow
  have h2z := S2.lt
  have hlt1 := HS1.out.lt
  have T : Hid (SK 2 (0 + 140) w2.heap.size x (.slice A x.terms.length c) w (w2.alloc (.cells #[.string x.name, .int .i64 x.kind, .int .i64 x.num, .int .i64 x.den, .slice A x.terms.length c, .int .i64 x.sp, .int .i64 x.sd, .int .i64 x.sq] 36))) := by
    have e1 := ext1 w2 (.cells #[.string x.name, .int .i64 x.kind, .int .i64 x.num, .int .i64 x.den, .slice A x.terms.length c, .int .i64 x.sp, .int .i64 x.sd, .int .i64 x.sq] 36)
    exact ⟨S2.next e1, fun i hi => by
      obtain rfl | rfl : i = 0 ∨ i = 1 := by omega
      · exact (R0.out.keepK K2 (by omega)).next e1
      · exact (R1.out.keepK K2 (by omega)).next e1, ext_trans (B1.out.trans (K2.1.mono (by omega))) e1, BoxV.new _ _ _, (hrow.mono (by omega)).alloc _, h2z⟩
  have HSZ : Hid (x.name.size ≤ 10) := by
    have h : (⟨#[97]⟩ : ByteArray).size = 1 := rfl
    unfold Hid
    omega
  clear hrow S2 K2 R0 R1 B1 HS1 hsz hlt1
  go_wp2_with fail
  generalize w2.alloc (.cells #[.string x.name, .int .i64 x.kind, .int .i64 x.num, .int .i64 x.den, .slice A x.terms.length c, .int .i64 x.sp, .int .i64 x.sd, .int .i64 x.sq] 36) = W2 at *
  refine (srcOne_any (w.heap.size + 2) _ _ 5 _ T.out.src (by omega) (by omega)).mono ?_
  rintro e w3 ⟨bb, rfl, S3, K3⟩
  have T := Lib.hid (T.out.kept S3 K3)
  clear S3 K3
  generalize w2.heap.size = b at *
  have HS := Lib.hid T.out.src
  have X8 : S8 b x A c w3.drew := S8.of T.out.s.drew
  have hbi : b ≠ w.heap.size := by omega
  have hbj : b ≠ w.heap.size + 1 := by omega
  have HTK : Hid (∀ (M : Nat) (W : World), Src (w.heap.size + 2) (w.heap.size + 2) M W → Keep (w.heap.size + 2) w3.drew W → SK 2 M b x (.slice A x.terms.length c) w W) := fun M W hs k => (T.out.next (ext_drew (Below.refl _ _))).kept hs k
  have HKK : Hid (∀ W : World, Keep (w.heap.size + 2) w3.drew W → S8 b x A c W) := fun W k => S8.of ((T.out.s.drew).keepK k (by omega))
  have h3z := T.out.src.lt
  have HFIN : Hid (∀ (M : Nat) (y : Nt) (D : Option Addr) (d : Nat) (W : World) (a0 a1 a2 a3 a4 a5 a6 a7 b0 b1 b2 b3 b4 b5 b6 b7 : Value), SK 2 M b x (.slice A x.terms.length c) w W → WrT W (w.heap.size + 2) D d y.terms → y.name.size ≤ 10 → y.terms.length ≤ 10 → RetCn w (.returned (.tuple #[ntV x.name x.kind x.num x.den A x.terms.length c x.sp x.sd x.sq, ntV y.name y.kind y.num y.den D y.terms.length d y.sp y.sd y.sq])) ((((((((((((((((W.setCell ⟨w.heap.size, 0, none⟩ a0).setCell ⟨w.heap.size, 1, none⟩ a1).setCell ⟨w.heap.size, 2, none⟩ a2).setCell ⟨w.heap.size, 3, none⟩ a3).setCell ⟨w.heap.size, 4, none⟩ a4).setCell ⟨w.heap.size, 5, none⟩ a5).setCell ⟨w.heap.size, 6, none⟩ a6).setCell ⟨w.heap.size, 7, none⟩ a7).setCell ⟨w.heap.size + 1, 0, none⟩ b0).setCell ⟨w.heap.size + 1, 1, none⟩ b1).setCell ⟨w.heap.size + 1, 2, none⟩ b2).setCell ⟨w.heap.size + 1, 3, none⟩ b3).setCell ⟨w.heap.size + 1, 4, none⟩ b4).setCell ⟨w.heap.size + 1, 5, none⟩ b5).setCell ⟨w.heap.size + 1, 6, none⟩ b6).setCell ⟨w.heap.size + 1, 7, none⟩ b7)) := fun M y D d W a0 a1 a2 a3 a4 a5 a6 a7 b0 b1 b2 b3 b4 b5 b6 b7 t hy hn ht => by
    have hr := own_rdT t.row
    exact ⟨x, y, A, D, c, d, rfl, ⟨HSZ.out, htl⟩, ⟨hn, ht⟩, ⟨(Wr.set8 (Wr.set8 hr.1 (by omega) _ _ _ _ _ _ _ _) (by omega) _ _ _ _ _ _ _ _).rd, hr.2⟩, ⟨(Wr.set8 (Wr.set8 hy.1 (by omega) _ _ _ _ _ _ _ _) (by omega) _ _ _ _ _ _ _ _).rd, hy.2⟩,
      Below.set8 (Below.set8 t.bel (Nat.le_refl _) _ _ _ _ _ _ _ _) (Nat.le_succ _) _ _ _ _ _ _ _ _⟩
  have HRD : Hid (RdT w3.drew w3.drew.heap.size A c x.terms) := by
    have hr := own_rdT (own_kept T.out.row (Keep.of (ext_drew (Below.refl _ _)) h3z) (by omega))
    exact ⟨hr.1.rd, hr.2⟩
  have HNA : Hid (NtAt w3.drew b 0 x A c) := ⟨X8.1, X8.2.1, X8.2.2.1, X8.2.2.2.1, X8.2.2.2.2.1, X8.2.2.2.2.2.1, X8.2.2.2.2.2.2.1, X8.2.2.2.2.2.2.2⟩
  clear T
  cases bb
  · go_wp2_with fail
    go_region_held3 (fun W => W.cell? ⟨b, 0, none⟩ = some (.string x.name) ∧ W.cell? ⟨b, 1, none⟩ = some (.int .i64 x.kind) ∧ W.cell? ⟨b, 2, none⟩ = some (.int .i64 x.num) ∧ W.cell? ⟨b, 3, none⟩ = some (.int .i64 x.den) ∧ W.cell? ⟨b, 4, none⟩ = some (.slice A x.terms.length c) ∧ W.cell? ⟨b, 5, none⟩ = some (.int .i64 x.sp) ∧ W.cell? ⟨b, 6, none⟩ = some (.int .i64 x.sd) ∧ W.cell? ⟨b, 7, none⟩ = some (.int .i64 x.sq))
      (first | with_reducible exact X8 | with_reducible exact HKK.out _ K6 | with_reducible exact S8.set8 (HKK.out _ K6) hbi _ _ _ _ _ _ _ _ | with_reducible exact S8.set8 (HKK.out _ K6) hbj _ _ _ _ _ _ _ _ | with_reducible exact S8.set8 (S8.set8 (HKK.out _ K6) hbi _ _ _ _ _ _ _ _) hbj _ _ _ _ _ _ _ _ | with_reducible exact S8.set8 (S8.set8 (HKK.out _ K6) hbj _ _ _ _ _ _ _ _) hbi _ _ _ _ _ _ _ _)
      (first | (go_at_call 32; (with_reducible refine (l27Bent_any (w.heap.size + 2) (w.heap.size + 2) _ ⟨#[98]⟩ _ (HS.out.next (ext_drew (Below.refl _ _))) (by omega)).mono ?_); rintro e w6 ⟨y, v6, rfl, hyz, hytl, hyrow, S6, K6⟩; obtain ⟨D, d, rfl⟩ := own_slice hyrow; have T6 := Lib.hid (HTK.out _ _ S6 K6); have B6 : BoxV w.heap.size ntZ _ := T6.out.r 0 (by omega); have D6 : BoxV (w.heap.size + 1) ntZ _ := T6.out.r 1 (by omega); have r0 := B6.at 0 _ rfl; have rf0 := B6.f 0; have r1 := B6.at 1 _ rfl; have rf1 := B6.f 1; have r2 := B6.at 2 _ rfl; have rf2 := B6.f 2; have r3 := B6.at 3 _ rfl; have rf3 := B6.f 3; have r4 := B6.at 4 _ rfl; have rf4 := B6.f 4; have r5 := B6.at 5 _ rfl; have rf5 := B6.f 5; have r6 := B6.at 6 _ rfl; have rf6 := B6.f 6; have r7 := B6.at 7 _ rfl; have rf7 := B6.f 7; have q0 := D6.at 0 _ rfl; have qf0 := D6.f 0; have q1 := D6.at 1 _ rfl; have qf1 := D6.f 1; have q2 := D6.at 2 _ rfl; have qf2 := D6.f 2; have q3 := D6.at 3 _ rfl; have qf3 := D6.f 3; have q4 := D6.at 4 _ rfl; have qf4 := D6.f 4; have q5 := D6.at 5 _ rfl; have qf5 := D6.f 5; have q6 := D6.at 6 _ rfl; have qf6 := D6.f 6; have q7 := D6.at 7 _ rfl; have qf7 := D6.f 7))
    have hyn : y.name.size ≤ 10 := by
      have h : (⟨#[98]⟩ : ByteArray).size = 1 := rfl
      omega
    have h36 : w3.drew.heap.size = w3.heap.size := rfl
    have hyr := own_rdT (hyrow.mono (base' := w.heap.size + 2) (by omega))
    have HE6 := Lib.hid (fun a0 a1 a2 a3 a4 a5 a6 a7 b0 b1 b2 b3 b4 b5 b6 b7 => HFIN.out _ y D d _ a0 a1 a2 a3 a4 a5 a6 a7 b0 b1 b2 b3 b4 b5 b6 b7 T6.out hyr hyn hytl)
    clear T6 HFIN HTK HKK hyrow hyr HRD HNA
    go_wp2
    refine bodyPost_ret ?_ rfl (HE6.out _ _ _ _ _ _ _ _ _ _ _ _ _ _ _ _)
    simp [results, Try.results14, go_sem, r0, r1, r2, r3, r4, r5, r6, r7, q0, q1, q2, q3, q4, q5, q6, q7]
  · go_wp2_with fail
    go_region_held3 (fun W => W.cell? ⟨b, 0, none⟩ = some (.string x.name) ∧ W.cell? ⟨b, 1, none⟩ = some (.int .i64 x.kind) ∧ W.cell? ⟨b, 2, none⟩ = some (.int .i64 x.num) ∧ W.cell? ⟨b, 3, none⟩ = some (.int .i64 x.den) ∧ W.cell? ⟨b, 4, none⟩ = some (.slice A x.terms.length c) ∧ W.cell? ⟨b, 5, none⟩ = some (.int .i64 x.sp) ∧ W.cell? ⟨b, 6, none⟩ = some (.int .i64 x.sd) ∧ W.cell? ⟨b, 7, none⟩ = some (.int .i64 x.sq))
      (first | with_reducible exact X8 | with_reducible exact HKK.out _ K6 | with_reducible exact S8.set8 (HKK.out _ K6) hbi _ _ _ _ _ _ _ _ | with_reducible exact S8.set8 (HKK.out _ K6) hbj _ _ _ _ _ _ _ _ | with_reducible exact S8.set8 (S8.set8 (HKK.out _ K6) hbi _ _ _ _ _ _ _ _) hbj _ _ _ _ _ _ _ _ | with_reducible exact S8.set8 (S8.set8 (HKK.out _ K6) hbj _ _ _ _ _ _ _ _) hbi _ _ _ _ _ _ _ _)
      (first | (go_at_call 44; (with_reducible refine (l27Own_any x b 0 A c _ HNA.out HRD.out (by omega)).mono ?_); rintro e w6 ⟨D, d, rfl, hyr0, hb6⟩; have K6 : Keep (w.heap.size + 2) w3.drew w6 := Keep.of hb6 h3z; have T6 := Lib.hid (HTK.out _ _ ((HS.out.next (ext_drew (Below.refl _ _))).next hb6) K6); have B6 : BoxV w.heap.size ntZ _ := T6.out.r 0 (by omega); have D6 : BoxV (w.heap.size + 1) ntZ _ := T6.out.r 1 (by omega); have r0 := B6.at 0 _ rfl; have rf0 := B6.f 0; have r1 := B6.at 1 _ rfl; have rf1 := B6.f 1; have r2 := B6.at 2 _ rfl; have rf2 := B6.f 2; have r3 := B6.at 3 _ rfl; have rf3 := B6.f 3; have r4 := B6.at 4 _ rfl; have rf4 := B6.f 4; have r5 := B6.at 5 _ rfl; have rf5 := B6.f 5; have r6 := B6.at 6 _ rfl; have rf6 := B6.f 6; have r7 := B6.at 7 _ rfl; have rf7 := B6.f 7; have q0 := D6.at 0 _ rfl; have qf0 := D6.f 0; have q1 := D6.at 1 _ rfl; have qf1 := D6.f 1; have q2 := D6.at 2 _ rfl; have qf2 := D6.f 2; have q3 := D6.at 3 _ rfl; have qf3 := D6.f 3; have q4 := D6.at 4 _ rfl; have qf4 := D6.f 4; have q5 := D6.at 5 _ rfl; have qf5 := D6.f 5; have q6 := D6.at 6 _ rfl; have qf6 := D6.f 6; have q7 := D6.at 7 _ rfl; have qf7 := D6.f 7))
    have h36 : w3.drew.heap.size = w3.heap.size := rfl
    have hyr := hyr0.more (B' := w.heap.size + 2) (by omega)
    have HE6 := Lib.hid (fun a0 a1 a2 a3 a4 a5 a6 a7 b0 b1 b2 b3 b4 b5 b6 b7 => HFIN.out _ x D d _ a0 a1 a2 a3 a4 a5 a6 a7 b0 b1 b2 b3 b4 b5 b6 b7 T6.out hyr HSZ.out htl)
    clear T6 HFIN HTK HKK hyr0 hyr HRD HNA
    go_wp2
    refine bodyPost_ret ?_ rfl (HE6.out _ _ _ _ _ _ _ _ _ _ _ _ _ _ _ _)
    simp [results, Try.results14, go_sem, r0, r1, r2, r3, r4, r5, r6, r7, q0, q1, q2, q3, q4, q5, q6, q7]
end Go.Proofs.Ytkimmahmbacjpaa
