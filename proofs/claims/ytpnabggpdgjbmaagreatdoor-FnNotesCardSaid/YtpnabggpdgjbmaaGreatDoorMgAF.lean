/- What the statements on notes draw: notes. No condition but those that each theorem names. -/
import Derived.Test.YtpnabggpdgjbmaaGreatDoorMgAE
import Derived.Test.YtpnabggpdgjbmaaGreatDoorMgAC
import Derived.Deep.RegionHeld3
import Derived.IntWalk
import Derived.Deep.Onto
import Derived.Deep.RegionLaw
import Derived.Deep.DeepMust
namespace Go.Proofs.YtpnabggpdgjbmaaGreatDoor
open Go.RowKit Go.Sort
/-- A note's cells, its terms as any value. -/
@[reducible] def ntC8 (x : Nt) (v : Value) : List Value := [.string x.name, .int .i64 x.kind, .int .i64 x.num, .int .i64 x.den, v, .int .i64 x.sp, .int .i64 x.sd, .int .i64 x.sq]
@[reducible] def ntZ : List Value := [.string ⟨#[]⟩, .int .i64 0, .int .i64 0, .int .i64 0, .slice none 0 0, .int .i64 0, .int .i64 0, .int .i64 0]
theorem own_setOff {b j : Nat} {u : Value} {W : World} {base : Nat} {e : TypeId} {size n : Nat} {v : Value} {xs : List Value} (h : W.ownsRow base e size v n xs) (hb : v.ownBlock ≠ some b) : (W.setCell ⟨b, j, none⟩ u).ownsRow base e size v n xs := by
  obtain ⟨h1, h2⟩ := h
  refine ⟨h1, ?_⟩
  rcases h2 with h2 | ⟨c, cap, cur, hv, hc, hh, r⟩
  · exact .inl h2
  · refine .inr ⟨c, cap, cur, hv, hc, ?_, r⟩
    have hne : c ≠ b := fun e => hb (by rw [hv, e]; rfl)
    exact (Below.heap_setCell W ⟨b, j, none⟩ u c (by simp; exact hne)).trans hh
/-- The state of a draw of a note: the result's box, the note's box, its terms, the source. -/
structure SN (g B N b : Nat) (x : Nt) (v : Value) (w W : World) : Prop where
  src : Src g B N W
  keep : Keep g w W
  r : BoxV w.heap.size ntZ W
  s : BoxV b (ntC8 x v) W
  row : W.ownsRow (w.heap.size + 1) 2 1 v x.terms.length (x.terms.map (Value.int .i64))
  far : v.ownBlock ≠ some b
  hb : w.heap.size < b
  hg : g < w.heap.size
section
variable {g B N M b : Nat} {x : Nt} {v : Value} {w W W' : World}
theorem SN.kept (t : SN g B N b x v w W) (hs : Src g B M W') (k : Keep g W W') : SN g B M b x v w W' :=
  ⟨hs, t.keep.trans k, t.r.keepK k (by have := t.hg; omega), t.s.keepK k (by have := t.hg; have := t.hb; omega), own_kept t.row k (by have := t.hg; omega), t.far, t.hb, t.hg⟩
theorem SN.next (t : SN g B N b x v w W) (hb : Below W.heap.size W W') : SN g B N b x v w W' := t.kept (t.src.next hb) (Keep.of hb t.src.lt)
theorem SN.name (t : SN g B N b x v w W) (s : ByteArray) : SN g B N b { x with name := s } v w (W.setCell ⟨b, 0, none⟩ (.string s)) :=
  ⟨t.src.setOther (Nat.lt_trans t.hg t.hb) _ _, t.keep.setOther t.hg (Nat.le_of_lt t.hb) _ _, t.r.setFar _ (by have := t.hb; omega), t.s.set 0 _ (by simp), own_setOff t.row t.far, t.far, t.hb, t.hg⟩
theorem SN.kind (t : SN g B N b x v w W) (k : Int) : SN g B N b { x with kind := k } v w (W.setCell ⟨b, 1, none⟩ (.int .i64 k)) :=
  ⟨t.src.setOther (Nat.lt_trans t.hg t.hb) _ _, t.keep.setOther t.hg (Nat.le_of_lt t.hb) _ _, t.r.setFar _ (by have := t.hb; omega), t.s.set 1 _ (by simp), own_setOff t.row t.far, t.far, t.hb, t.hg⟩
theorem SN.num (t : SN g B N b x v w W) (k : Int) : SN g B N b { x with num := k } v w (W.setCell ⟨b, 2, none⟩ (.int .i64 k)) :=
  ⟨t.src.setOther (Nat.lt_trans t.hg t.hb) _ _, t.keep.setOther t.hg (Nat.le_of_lt t.hb) _ _, t.r.setFar _ (by have := t.hb; omega), t.s.set 2 _ (by simp), own_setOff t.row t.far, t.far, t.hb, t.hg⟩
theorem SN.den (t : SN g B N b x v w W) (k : Int) : SN g B N b { x with den := k } v w (W.setCell ⟨b, 3, none⟩ (.int .i64 k)) :=
  ⟨t.src.setOther (Nat.lt_trans t.hg t.hb) _ _, t.keep.setOther t.hg (Nat.le_of_lt t.hb) _ _, t.r.setFar _ (by have := t.hb; omega), t.s.set 3 _ (by simp), own_setOff t.row t.far, t.far, t.hb, t.hg⟩
theorem SN.sp (t : SN g B N b x v w W) (k : Int) : SN g B N b { x with sp := k } v w (W.setCell ⟨b, 5, none⟩ (.int .i64 k)) :=
  ⟨t.src.setOther (Nat.lt_trans t.hg t.hb) _ _, t.keep.setOther t.hg (Nat.le_of_lt t.hb) _ _, t.r.setFar _ (by have := t.hb; omega), t.s.set 5 _ (by simp), own_setOff t.row t.far, t.far, t.hb, t.hg⟩
theorem SN.sd (t : SN g B N b x v w W) (k : Int) : SN g B N b { x with sd := k } v w (W.setCell ⟨b, 6, none⟩ (.int .i64 k)) :=
  ⟨t.src.setOther (Nat.lt_trans t.hg t.hb) _ _, t.keep.setOther t.hg (Nat.le_of_lt t.hb) _ _, t.r.setFar _ (by have := t.hb; omega), t.s.set 6 _ (by simp), own_setOff t.row t.far, t.far, t.hb, t.hg⟩
theorem SN.sq (t : SN g B N b x v w W) (k : Int) : SN g B N b { x with sq := k } v w (W.setCell ⟨b, 7, none⟩ (.int .i64 k)) :=
  ⟨t.src.setOther (Nat.lt_trans t.hg t.hb) _ _, t.keep.setOther t.hg (Nat.le_of_lt t.hb) _ _, t.r.setFar _ (by have := t.hb; omega), t.s.set 7 _ (by simp), own_setOff t.row t.far, t.far, t.hb, t.hg⟩
/-- Terms that were drawn in between. -/
theorem SN.terms (t : SN g B N b x v w W) {ts : List Int} {v' : Value} (h : SL g B M W ts v' W') : SN g B M b { x with terms := ts } v' w (W'.setCell ⟨b, 4, none⟩ v') := by
  have hlt := t.s.lt
  have hbw := t.hb
  have hf : v'.ownBlock ≠ some b := fun e => by have := (h.row.lt b e).1; omega
  have t2 := t.kept h.src h.keep
  exact ⟨t2.src.setOther (Nat.lt_trans t.hg t.hb) _ _, t2.keep.setOther t.hg (Nat.le_of_lt t.hb) _ _, t2.r.setFar _ (by omega), t2.s.set 4 _ (by simp), own_setOff (h.row.mono (by omega)) hf, hf, t.hb, t.hg⟩
/-- Behind an append to the terms. -/
theorem SN.push (t : SN g B N b x v w W) {y : Int} {v' : Value} (hown : W'.ownsRow (w.heap.size + 1) 2 1 v' (x.terms.length + 1) (x.terms.map (Value.int .i64) ++ [.int .i64 y])) (hgr : W.grownBy W' v.ownBlock) (hf : v'.ownBlock ≠ some b) :
    SN g B N b { x with terms := x.terms ++ [y] } v' w (W'.setCell ⟨b, 4, none⟩ v') := by
  have hl := fun k hk => (t.row.lt k hk).1
  have hg := t.hg
  have hb := t.hb
  have hs := t.keep.2.1
  have s2 : Src g B N W' := t.src.grown hgr (fun k hk => by have := hl k hk; omega)
  have k2 : Keep g w W' := ⟨t.keep.1.grown hgr (by omega) (fun k hk => by have := hl k hk; omega), Nat.le_trans hs hgr.size, fun c hc hlt =>
    (hgr.block c (Nat.lt_of_lt_of_le hlt hs) (fun e => by have := hl c e.symm; omega)).trans (t.keep.2.2 c hc hlt)⟩
  refine ⟨s2.setOther (Nat.lt_trans hg hb) _ _, k2.setOther hg (Nat.le_of_lt hb) _ _, (t.r.grown hgr (fun e => by have := hl _ e; omega)).setFar _ (by omega), (t.s.grown hgr t.far).set 4 _ (by simp), ?_, hf, hb, hg⟩
  refine own_setOff ?_ hf
  simpa using hown
theorem SN.fin (t : SN g B N b x v w W) (hM : N ≤ M) (a0 a1 a2 a3 a4 a5 a6 a7 : Value) :
    let Z := ((((((((W.setCell ⟨w.heap.size, 0, none⟩ a0).setCell ⟨w.heap.size, 1, none⟩ a1).setCell ⟨w.heap.size, 2, none⟩ a2).setCell ⟨w.heap.size, 3, none⟩ a3).setCell ⟨w.heap.size, 4, none⟩ a4).setCell ⟨w.heap.size, 5, none⟩ a5).setCell ⟨w.heap.size, 6, none⟩ a6).setCell ⟨w.heap.size, 7, none⟩ a7)
    Z.ownsRow (w.heap.size + 1) 2 1 v x.terms.length (x.terms.map (Value.int .i64)) ∧ Src g B M Z ∧ Keep g w Z := by
  have hf : v.ownBlock ≠ some w.heap.size := fun e => by have := (t.row.lt _ e).1; omega
  have hg := t.hg
  refine ⟨?_, ?_, ?_⟩
  · iterate 8 (refine own_setOff ?_ hf)
    exact t.row
  · iterate 8 (refine Src.setOther ?_ hg _ _)
    exact t.src.more hM
  · iterate 8 (refine Keep.setOther ?_ hg (Nat.le_refl _) _ _)
    exact t.keep
end
/-- What a draw of a note returns. -/
def RetNd (g B N : Nat) (s : ByteArray) (M : Nat) (w : World) (e : Ending) (w' : World) : Prop := ∃ (x : Nt) (v : Value), e = .returned (.agg #[.string x.name, .int .i64 x.kind, .int .i64 x.num, .int .i64 x.den, v, .int .i64 x.sp, .int .i64 x.sd, .int .i64 x.sq]) ∧
  x.name.size ≤ s.size + 1 ∧ x.terms.length ≤ M ∧ w'.ownsRow (w.heap.size + 1) 2 1 v x.terms.length (x.terms.map (Value.int .i64)) ∧ Src g B N w' ∧ Keep g w w'
set_option maxRecDepth 100000 in
set_option maxHeartbeats 4000000 in
theorem l27New_any (g B N : Nat) (s : ByteArray) (w : World) (h : Src g B N w) (hN : N ≤ 600000) :
    Calls Tryz.prog 71 #[.pointer (some ⟨g, 0, none⟩), .string s] w (RetNd g B (N + 60) s 9 w) := by
  have HG := Lib.hid h.lt
  have S := Lib.hid (h.next (ext1 w (.cells #[.string ⟨#[]⟩, .int .i64 0, .int .i64 0, .int .i64 0, .slice none 0 0, .int .i64 0, .int .i64 0, .int .i64 0] 31)))
  have K := Lib.hid (Keep.of (ext1 w (.cells #[.string ⟨#[]⟩, .int .i64 0, .int .i64 0, .int .i64 0, .slice none 0 0, .int .i64 0, .int .i64 0, .int .i64 0] 31)) h.lt)
  have R := Lib.hid (BoxV.new w #[.string ⟨#[]⟩, .int .i64 0, .int .i64 0, .int .i64 0, .slice none 0 0, .int .i64 0, .int .i64 0, .int .i64 0] 31)
  clear h
  go_enter Tryz.func71, Tryz.ntmps71
  go_wp2_with fail
  generalize w.alloc (.cells #[.string ⟨#[]⟩, .int .i64 0, .int .i64 0, .int .i64 0, .slice none 0 0, .int .i64 0, .int .i64 0, .int .i64 0] 31) = W0 at *
  refine (srcPick_any g B N 3 _ S.out (by omega) (by omega)).mono ?_
  rintro e w1 ⟨k, k1, k2, rfl, S1, K1⟩
  have R1 := Lib.hid (R.out.keepK K1 (by have := HG.out; omega))
  have KK := Lib.hid (K.out.trans K1)
  have HS1 := Lib.hid S1
  clear S1 K1 S K R
  have HT : Hid (∀ q : Int, SN g B (N + 2) (w1.heap.size + 1) ⟨s, q, 0, 0, [], 0, 0, 0⟩ (.slice (some ⟨w1.heap.size, 0, none⟩) 0 0) w ((w1.alloc (.cells #[] 2)).alloc (.cells #[.string s, .int .i64 q, .int .i64 0, .int .i64 0, .slice (some ⟨w1.heap.size, 0, none⟩) 0 0, .int .i64 0, .int .i64 0, .int .i64 0] 31))) := fun q => by
    have e1 := ext1 w1 (.cells #[] 2)
    have e2 := ext1 (w1.alloc (.cells #[] 2)) (.cells #[.string s, .int .i64 q, .int .i64 0, .int .i64 0, .slice (some ⟨w1.heap.size, 0, none⟩) 0 0, .int .i64 0, .int .i64 0, .int .i64 0] 31)
    have hl := R1.out.lt
    have hb := BoxV.new (w1.alloc (.cells #[] 2)) #[.string s, .int .i64 q, .int .i64 0, .int .i64 0, .slice (some ⟨w1.heap.size, 0, none⟩) 0 0, .int .i64 0, .int .i64 0, .int .i64 0] 31
    simp only [World.size_alloc] at hb
    refine ⟨(HS1.out.next e1).next e2, (KK.out.trans (Keep.of e1 HS1.out.lt)).trans (Keep.of e2 (HS1.out.next e1).lt), (R1.out.next e1).next e2, hb, ?_, by simp [Value.ownBlock], by omega, HG.out⟩
    have h := World.ownsRow_lit (base := w.heap.size + 1) (e := 2) (size := 1) w1 #[] 0 (by omega) (by unfold maxLen; omega) rfl
    exact World.ownsRow.alloc (by simpa using h) _
  obtain rfl | rfl | rfl : k = 0 ∨ k = 1 ∨ k = 2 := by omega
  · have T := Lib.hid (HT.out 1)
    clear HT k1 k2 R1 KK HS1
    go_wp2_with fail
    generalize (w1.alloc (.cells #[] 2)).alloc (.cells #[.string s, .int .i64 1, .int .i64 0, .int .i64 0, .slice (some ⟨w1.heap.size, 0, none⟩) 0 0, .int .i64 0, .int .i64 0, .int .i64 0] 31) = W1 at *
    refine (l02Draw_any g B _ _ T.out.src (by omega)).mono ?_
    rintro e w2 ⟨a, c, rfl, S2, K2⟩
    have T := Lib.hid (T.out.kept S2 K2)
    clear S2 K2
    generalize w1.heap.size + 1 = b at *
    have u0 := T.out.s.at 0 _ rfl
    have u1 := T.out.s.at 1 _ rfl
    have u2 := T.out.s.at 2 _ rfl
    have u3 := T.out.s.at 3 _ rfl
    have u4 := T.out.s.at 4 _ rfl
    have u5 := T.out.s.at 5 _ rfl
    have u6 := T.out.s.at 6 _ rfl
    have u7 := T.out.s.at 7 _ rfl
    have v0 := T.out.s.f 0
    have v1 := T.out.s.f 1
    have v2 := T.out.s.f 2
    have v3 := T.out.s.f 3
    have v4 := T.out.s.f 4
    have v5 := T.out.s.f 5
    have v6 := T.out.s.f 6
    have v7 := T.out.s.f 7
    have T := Lib.hid ((T.out.num a).den c)
    go_upto_region 10 with fail
    generalize (w2.setCell ⟨b, 2, none⟩ (.int .i64 a)).setCell ⟨b, 3, none⟩ (.int .i64 c) = W5 at *
    clear u0 u1 u2 u3 u4 u5 u6 u7 v0 v1 v2 v3 v4 v5 v6 v7
    have u0 := T.out.s.at 0 _ rfl
    have u1 := T.out.s.at 1 _ rfl
    have u2 := T.out.s.at 2 _ rfl
    have u3 := T.out.s.at 3 _ rfl
    have u4 := T.out.s.at 4 _ rfl
    have u5 := T.out.s.at 5 _ rfl
    have u6 := T.out.s.at 6 _ rfl
    have u7 := T.out.s.at 7 _ rfl
    have v0 := T.out.s.f 0
    have v1 := T.out.s.f 1
    have v2 := T.out.s.f 2
    have v3 := T.out.s.f 3
    have v4 := T.out.s.f 4
    have v5 := T.out.s.f 5
    have v6 := T.out.s.f 6
    have v7 := T.out.s.f 7
    have r0 := T.out.r.at 0 _ rfl
    have r1 := T.out.r.at 1 _ rfl
    have r2 := T.out.r.at 2 _ rfl
    have r3 := T.out.r.at 3 _ rfl
    have r4 := T.out.r.at 4 _ rfl
    have r5 := T.out.r.at 5 _ rfl
    have r6 := T.out.r.at 6 _ rfl
    have r7 := T.out.r.at 7 _ rfl
    have f0 := T.out.r.f 0
    have f1 := T.out.r.f 1
    have f2 := T.out.r.f 2
    have f3 := T.out.r.f 3
    have f4 := T.out.r.f 4
    have f5 := T.out.r.f 5
    have f6 := T.out.r.f 6
    have f7 := T.out.r.f 7
    have HE := Lib.hid (T.out.fin (M := N + 60) (by omega))
    clear T
    go_wp2
    refine bodyPost_ret ?_ rfl ⟨⟨s, 1, a, c, [], 0, 0, 0⟩, _, rfl, by simp, by simp, HE.out _ _ _ _ _ _ _ _⟩
    simp [results, Tryz.results71, go_sem, r0, r1, r2, r3, r4, r5, r6, r7]
  · have T := Lib.hid (HT.out 2)
    clear HT k1 k2 R1 KK HS1
    go_wp2_with fail
    generalize (w1.alloc (.cells #[] 2)).alloc (.cells #[.string s, .int .i64 2, .int .i64 0, .int .i64 0, .slice (some ⟨w1.heap.size, 0, none⟩) 0 0, .int .i64 0, .int .i64 0, .int .i64 0] 31) = W1 at *
    refine (l03Draw_any g B _ _ T.out.src (by omega)).mono ?_
    rintro e w2 ⟨ts, v, rfl, hts, HL⟩
    obtain ⟨_, A, c, rfl, _⟩ := Wr.of_own HL.row
    have HT2 := Lib.hid (T.out.terms HL)
    have T := Lib.hid (T.out.kept HL.src HL.keep)
    clear HL
    generalize w1.heap.size + 1 = b at *
    have u0 := T.out.s.at 0 _ rfl
    have u1 := T.out.s.at 1 _ rfl
    have u2 := T.out.s.at 2 _ rfl
    have u3 := T.out.s.at 3 _ rfl
    have u4 := T.out.s.at 4 _ rfl
    have u5 := T.out.s.at 5 _ rfl
    have u6 := T.out.s.at 6 _ rfl
    have u7 := T.out.s.at 7 _ rfl
    have v0 := T.out.s.f 0
    have v1 := T.out.s.f 1
    have v2 := T.out.s.f 2
    have v3 := T.out.s.f 3
    have v4 := T.out.s.f 4
    have v5 := T.out.s.f 5
    have v6 := T.out.s.f 6
    have v7 := T.out.s.f 7
    have T := HT2
    clear HT2
    go_upto_region 10 with fail
    generalize w2.setCell ⟨b, 4, none⟩ (.slice A ts.length c) = W5 at *
    clear u0 u1 u2 u3 u4 u5 u6 u7 v0 v1 v2 v3 v4 v5 v6 v7
    have u0 := T.out.s.at 0 _ rfl
    have u1 := T.out.s.at 1 _ rfl
    have u2 := T.out.s.at 2 _ rfl
    have u3 := T.out.s.at 3 _ rfl
    have u4 := T.out.s.at 4 _ rfl
    have u5 := T.out.s.at 5 _ rfl
    have u6 := T.out.s.at 6 _ rfl
    have u7 := T.out.s.at 7 _ rfl
    have v0 := T.out.s.f 0
    have v1 := T.out.s.f 1
    have v2 := T.out.s.f 2
    have v3 := T.out.s.f 3
    have v4 := T.out.s.f 4
    have v5 := T.out.s.f 5
    have v6 := T.out.s.f 6
    have v7 := T.out.s.f 7
    have r0 := T.out.r.at 0 _ rfl
    have r1 := T.out.r.at 1 _ rfl
    have r2 := T.out.r.at 2 _ rfl
    have r3 := T.out.r.at 3 _ rfl
    have r4 := T.out.r.at 4 _ rfl
    have r5 := T.out.r.at 5 _ rfl
    have r6 := T.out.r.at 6 _ rfl
    have r7 := T.out.r.at 7 _ rfl
    have f0 := T.out.r.f 0
    have f1 := T.out.r.f 1
    have f2 := T.out.r.f 2
    have f3 := T.out.r.f 3
    have f4 := T.out.r.f 4
    have f5 := T.out.r.f 5
    have f6 := T.out.r.f 6
    have f7 := T.out.r.f 7
    have HE := Lib.hid (T.out.fin (M := N + 60) (by omega))
    clear T
    go_wp2
    refine bodyPost_ret ?_ rfl ⟨⟨s, 2, 0, 0, ts, 0, 0, 0⟩, _, rfl, by simp, by simp; omega, HE.out _ _ _ _ _ _ _ _⟩
    simp [results, Tryz.results71, go_sem, r0, r1, r2, r3, r4, r5, r6, r7]
  · have T := Lib.hid (HT.out 3)
    clear HT k1 k2 R1 KK HS1
    go_wp2_with fail
    generalize (w1.alloc (.cells #[] 2)).alloc (.cells #[.string s, .int .i64 3, .int .i64 0, .int .i64 0, .slice (some ⟨w1.heap.size, 0, none⟩) 0 0, .int .i64 0, .int .i64 0, .int .i64 0] 31) = W1 at *
    refine (l07Draw_any g B _ _ T.out.src (by omega)).mono ?_
    rintro e w2 ⟨p, d, q, rfl, S2, K2⟩
    have T := Lib.hid (T.out.kept S2 K2)
    clear S2 K2
    generalize w1.heap.size + 1 = b at *
    have u0 := T.out.s.at 0 _ rfl
    have u1 := T.out.s.at 1 _ rfl
    have u2 := T.out.s.at 2 _ rfl
    have u3 := T.out.s.at 3 _ rfl
    have u4 := T.out.s.at 4 _ rfl
    have u5 := T.out.s.at 5 _ rfl
    have u6 := T.out.s.at 6 _ rfl
    have u7 := T.out.s.at 7 _ rfl
    have v0 := T.out.s.f 0
    have v1 := T.out.s.f 1
    have v2 := T.out.s.f 2
    have v3 := T.out.s.f 3
    have v4 := T.out.s.f 4
    have v5 := T.out.s.f 5
    have v6 := T.out.s.f 6
    have v7 := T.out.s.f 7
    have T := Lib.hid (((T.out.sp p).sd d).sq q)
    go_upto_region 4 with fail
    generalize ((w2.setCell ⟨b, 5, none⟩ (.int .i64 p)).setCell ⟨b, 6, none⟩ (.int .i64 d)).setCell ⟨b, 7, none⟩ (.int .i64 q) = W5 at *
    clear u0 u1 u2 u3 u4 u5 u6 u7 v0 v1 v2 v3 v4 v5 v6 v7
    have u0 := T.out.s.at 0 _ rfl
    have u1 := T.out.s.at 1 _ rfl
    have u2 := T.out.s.at 2 _ rfl
    have u3 := T.out.s.at 3 _ rfl
    have u4 := T.out.s.at 4 _ rfl
    have u5 := T.out.s.at 5 _ rfl
    have u6 := T.out.s.at 6 _ rfl
    have u7 := T.out.s.at 7 _ rfl
    have v0 := T.out.s.f 0
    have v1 := T.out.s.f 1
    have v2 := T.out.s.f 2
    have v3 := T.out.s.f 3
    have v4 := T.out.s.f 4
    have v5 := T.out.s.f 5
    have v6 := T.out.s.f 6
    have v7 := T.out.s.f 7
    obtain ⟨r, hr⟩ : ∃ r, surdB p d q = r := ⟨_, rfl⟩
    go_wp2_with fail
    refine (l07Ok_any p d q _).mono ?_
    rw [hr]
    rintro e w6 ⟨rfl, hb6⟩
    have T := Lib.hid (T.out.next hb6)
    clear hr hb6 u0 u1 u2 u3 u4 u5 u6 u7 v0 v1 v2 v3 v4 v5 v6 v7
    cases r
    · skip
      have u0 := T.out.s.at 0 _ rfl
      have u1 := T.out.s.at 1 _ rfl
      have u2 := T.out.s.at 2 _ rfl
      have u3 := T.out.s.at 3 _ rfl
      have u4 := T.out.s.at 4 _ rfl
      have u5 := T.out.s.at 5 _ rfl
      have u6 := T.out.s.at 6 _ rfl
      have u7 := T.out.s.at 7 _ rfl
      have v0 := T.out.s.f 0
      have v1 := T.out.s.f 1
      have v2 := T.out.s.f 2
      have v3 := T.out.s.f 3
      have v4 := T.out.s.f 4
      have v5 := T.out.s.f 5
      have v6 := T.out.s.f 6
      have v7 := T.out.s.f 7
      have T := Lib.hid (((T.out.sp 1).sd 5).sq 2)
      go_upto_region 10 with fail
      generalize ((w6.setCell ⟨b, 5, none⟩ (.int .i64 1)).setCell ⟨b, 6, none⟩ (.int .i64 5)).setCell ⟨b, 7, none⟩ (.int .i64 2) = W6 at *
      clear u0 u1 u2 u3 u4 u5 u6 u7 v0 v1 v2 v3 v4 v5 v6 v7
      have u0 := T.out.s.at 0 _ rfl
      have u1 := T.out.s.at 1 _ rfl
      have u2 := T.out.s.at 2 _ rfl
      have u3 := T.out.s.at 3 _ rfl
      have u4 := T.out.s.at 4 _ rfl
      have u5 := T.out.s.at 5 _ rfl
      have u6 := T.out.s.at 6 _ rfl
      have u7 := T.out.s.at 7 _ rfl
      have v0 := T.out.s.f 0
      have v1 := T.out.s.f 1
      have v2 := T.out.s.f 2
      have v3 := T.out.s.f 3
      have v4 := T.out.s.f 4
      have v5 := T.out.s.f 5
      have v6 := T.out.s.f 6
      have v7 := T.out.s.f 7
      have r0 := T.out.r.at 0 _ rfl
      have r1 := T.out.r.at 1 _ rfl
      have r2 := T.out.r.at 2 _ rfl
      have r3 := T.out.r.at 3 _ rfl
      have r4 := T.out.r.at 4 _ rfl
      have r5 := T.out.r.at 5 _ rfl
      have r6 := T.out.r.at 6 _ rfl
      have r7 := T.out.r.at 7 _ rfl
      have f0 := T.out.r.f 0
      have f1 := T.out.r.f 1
      have f2 := T.out.r.f 2
      have f3 := T.out.r.f 3
      have f4 := T.out.r.f 4
      have f5 := T.out.r.f 5
      have f6 := T.out.r.f 6
      have f7 := T.out.r.f 7
      have HE := Lib.hid (T.out.fin (M := N + 60) (by omega))
      clear T
      go_wp2
      refine bodyPost_ret ?_ rfl ⟨⟨s, 3, 0, 0, [], 1, 5, 2⟩, _, rfl, by simp, by simp, HE.out _ _ _ _ _ _ _ _⟩
      simp [results, Tryz.results71, go_sem, r0, r1, r2, r3, r4, r5, r6, r7]
    · skip
      have u0 := T.out.s.at 0 _ rfl
      have u1 := T.out.s.at 1 _ rfl
      have u2 := T.out.s.at 2 _ rfl
      have u3 := T.out.s.at 3 _ rfl
      have u4 := T.out.s.at 4 _ rfl
      have u5 := T.out.s.at 5 _ rfl
      have u6 := T.out.s.at 6 _ rfl
      have u7 := T.out.s.at 7 _ rfl
      have v0 := T.out.s.f 0
      have v1 := T.out.s.f 1
      have v2 := T.out.s.f 2
      have v3 := T.out.s.f 3
      have v4 := T.out.s.f 4
      have v5 := T.out.s.f 5
      have v6 := T.out.s.f 6
      have v7 := T.out.s.f 7
      have r0 := T.out.r.at 0 _ rfl
      have r1 := T.out.r.at 1 _ rfl
      have r2 := T.out.r.at 2 _ rfl
      have r3 := T.out.r.at 3 _ rfl
      have r4 := T.out.r.at 4 _ rfl
      have r5 := T.out.r.at 5 _ rfl
      have r6 := T.out.r.at 6 _ rfl
      have r7 := T.out.r.at 7 _ rfl
      have f0 := T.out.r.f 0
      have f1 := T.out.r.f 1
      have f2 := T.out.r.f 2
      have f3 := T.out.r.f 3
      have f4 := T.out.r.f 4
      have f5 := T.out.r.f 5
      have f6 := T.out.r.f 6
      have f7 := T.out.r.f 7
      have HE := Lib.hid (T.out.fin (M := N + 60) (by omega))
      clear T
      go_wp2
      refine bodyPost_ret ?_ rfl ⟨⟨s, 3, 0, 0, [], p, d, q⟩, _, rfl, by simp, by simp, HE.out _ _ _ _ _ _ _ _⟩
      simp [results, Tryz.results71, go_sem, r0, r1, r2, r3, r4, r5, r6, r7]
set_option maxRecDepth 100000 in
set_option maxHeartbeats 4000000 in
theorem l27Bent_any (g B N : Nat) (s : ByteArray) (w : World) (h : Src g B N w) (hN : N ≤ 500000) :
    Calls Tryz.prog 32 #[.pointer (some ⟨g, 0, none⟩), .string s] w (RetNd g B (N + 140) s 10 w) := by
  obtain ⟨ti, hi, hz0, hz1, hz2⟩ := info_parts info64
  have HI := Lib.hid hi
  have HG := Lib.hid h.lt
  have S := Lib.hid (h.next (ext1 w (.cells #[.string ⟨#[]⟩, .int .i64 0, .int .i64 0, .int .i64 0, .slice none 0 0, .int .i64 0, .int .i64 0, .int .i64 0] 31)))
  have K := Lib.hid (Keep.of (ext1 w (.cells #[.string ⟨#[]⟩, .int .i64 0, .int .i64 0, .int .i64 0, .slice none 0 0, .int .i64 0, .int .i64 0, .int .i64 0] 31)) h.lt)
  have R := Lib.hid (BoxV.new w #[.string ⟨#[]⟩, .int .i64 0, .int .i64 0, .int .i64 0, .slice none 0 0, .int .i64 0, .int .i64 0, .int .i64 0] 31)
  clear h hi
  go_enter Tryz.func32, Tryz.ntmps32
  go_wp2_with fail
  generalize w.alloc (.cells #[.string ⟨#[]⟩, .int .i64 0, .int .i64 0, .int .i64 0, .slice none 0 0, .int .i64 0, .int .i64 0, .int .i64 0] 31) = W0 at *
  refine (l27New_any g B N s _ S.out (by omega)).mono ?_
  rintro e w1 ⟨x, v, rfl, hsz, htl, hrow, S1, K1⟩
  obtain ⟨A, c, rfl⟩ := own_slice hrow
  have hlt0 := R.out.lt
  have T : Hid (SN g B (N + 60) w1.heap.size x (.slice A x.terms.length c) w (w1.alloc (.cells #[.string x.name, .int .i64 x.kind, .int .i64 x.num, .int .i64 x.den, .slice A x.terms.length c, .int .i64 x.sp, .int .i64 x.sd, .int .i64 x.sq] 31))) := by
    have e1 := ext1 w1 (.cells #[.string x.name, .int .i64 x.kind, .int .i64 x.num, .int .i64 x.den, .slice A x.terms.length c, .int .i64 x.sp, .int .i64 x.sd, .int .i64 x.sq] 31)
    have R1 := R.out.keepK K1 (by have := HG.out; omega)
    exact ⟨S1.next e1, (K.out.trans K1).trans (Keep.of e1 S1.lt), R1.next e1, BoxV.new _ _ _, (hrow.mono (by omega)).alloc _, fun e => by have := (hrow.lt _ e).2; omega, R1.lt, HG.out⟩
  have HSZ := Lib.hid hsz
  clear S K R hrow S1 K1 hlt0 hsz
  go_wp2_with fail
  generalize w1.alloc (.cells #[.string x.name, .int .i64 x.kind, .int .i64 x.num, .int .i64 x.den, .slice A x.terms.length c, .int .i64 x.sp, .int .i64 x.sd, .int .i64 x.sq] 31) = W1 at *
  refine (srcPick_any g B _ 20 _ T.out.src (by omega) (by omega)).mono ?_
  rintro e w2 ⟨r, r1, r2, rfl, S2, K2⟩
  have T := Lib.hid (T.out.kept S2 K2)
  generalize w1.heap.size = b at *
  clear S2 K2
  by_cases e0 : r = 0
  · skip
    go_wp2_with fail
    refine (srcText_any g B _ _ _ [⟨#[]⟩, ⟨#[88]⟩] _ (T.out.src.next (ext1 _ _)) (by omega) (rd_litS _ _ _ _ rfl) (fun b o e => by injection e with e; injection e; have := T.out.src.lt; omega) (by simp) (by simp)).mono ?_
    rintro e w4 ⟨y, hy, rfl, S4, K4⟩
    have T := Lib.hid ((T.out.next (ext1 w2 _)).kept S4 K4)
    have HSY : Hid (y.size ≤ s.size + 1) := by
      simp only [List.mem_cons, List.not_mem_nil, or_false] at hy
      rcases hy with rfl | rfl
      · exact Nat.zero_le _
      · exact Nat.succ_le_succ (Nat.zero_le _)
    clear hy S4 K4
    have u0 := T.out.s.at 0 _ rfl
    have u1 := T.out.s.at 1 _ rfl
    have u2 := T.out.s.at 2 _ rfl
    have u3 := T.out.s.at 3 _ rfl
    have u4 := T.out.s.at 4 _ rfl
    have u5 := T.out.s.at 5 _ rfl
    have u6 := T.out.s.at 6 _ rfl
    have u7 := T.out.s.at 7 _ rfl
    have v0 := T.out.s.f 0
    have v1 := T.out.s.f 1
    have v2 := T.out.s.f 2
    have v3 := T.out.s.f 3
    have v4 := T.out.s.f 4
    have v5 := T.out.s.f 5
    have v6 := T.out.s.f 6
    have v7 := T.out.s.f 7
    have T := Lib.hid (T.out.name y)
    go_upto_region 13 with fail
    generalize w4.setCell ⟨b, 0, none⟩ (.string y) = W5 at *
    clear u0 u1 u2 u3 u4 u5 u6 u7 v0 v1 v2 v3 v4 v5 v6 v7
    have u0 := T.out.s.at 0 _ rfl
    have u1 := T.out.s.at 1 _ rfl
    have u2 := T.out.s.at 2 _ rfl
    have u3 := T.out.s.at 3 _ rfl
    have u4 := T.out.s.at 4 _ rfl
    have u5 := T.out.s.at 5 _ rfl
    have u6 := T.out.s.at 6 _ rfl
    have u7 := T.out.s.at 7 _ rfl
    have v0 := T.out.s.f 0
    have v1 := T.out.s.f 1
    have v2 := T.out.s.f 2
    have v3 := T.out.s.f 3
    have v4 := T.out.s.f 4
    have v5 := T.out.s.f 5
    have v6 := T.out.s.f 6
    have v7 := T.out.s.f 7
    have r0 := T.out.r.at 0 _ rfl
    have r1 := T.out.r.at 1 _ rfl
    have r2 := T.out.r.at 2 _ rfl
    have r3 := T.out.r.at 3 _ rfl
    have r4 := T.out.r.at 4 _ rfl
    have r5 := T.out.r.at 5 _ rfl
    have r6 := T.out.r.at 6 _ rfl
    have r7 := T.out.r.at 7 _ rfl
    have f0 := T.out.r.f 0
    have f1 := T.out.r.f 1
    have f2 := T.out.r.f 2
    have f3 := T.out.r.f 3
    have f4 := T.out.r.f 4
    have f5 := T.out.r.f 5
    have f6 := T.out.r.f 6
    have f7 := T.out.r.f 7
    have HE := Lib.hid (T.out.fin (M := N + 140) (by omega))
    have HR := Lib.hid T.out.s.lt
    clear T
    go_wp2
    refine bodyPost_ret ?_ rfl ⟨{ x with name := y }, _, rfl, HSY.out, Nat.le_succ_of_le htl, HE.out _ _ _ _ _ _ _ _⟩
    simp [results, Tryz.results32, go_sem, r0, r1, r2, r3, r4, r5, r6, r7]
  by_cases e1 : r = 1
  · skip
    go_wp2_with fail
    refine (srcAmong_any g B _ _ _ [0, 1, 2, 3, 4] _ (T.out.src.next (ext1 _ _)) (by omega) (rd_lit _ _ _ _ rfl) (fun b o e => by injection e with e; injection e; have := T.out.src.lt; omega) (by simp) (by simp)).mono ?_
    rintro e w4 ⟨y, hy, rfl, S4, K4⟩
    have T := Lib.hid ((T.out.next (ext1 w2 _)).kept S4 K4)
    clear hy S4 K4
    have u0 := T.out.s.at 0 _ rfl
    have u1 := T.out.s.at 1 _ rfl
    have u2 := T.out.s.at 2 _ rfl
    have u3 := T.out.s.at 3 _ rfl
    have u4 := T.out.s.at 4 _ rfl
    have u5 := T.out.s.at 5 _ rfl
    have u6 := T.out.s.at 6 _ rfl
    have u7 := T.out.s.at 7 _ rfl
    have v0 := T.out.s.f 0
    have v1 := T.out.s.f 1
    have v2 := T.out.s.f 2
    have v3 := T.out.s.f 3
    have v4 := T.out.s.f 4
    have v5 := T.out.s.f 5
    have v6 := T.out.s.f 6
    have v7 := T.out.s.f 7
    have T := Lib.hid (T.out.kind y)
    go_upto_region 13 with fail
    generalize w4.setCell ⟨b, 1, none⟩ (.int .i64 y) = W5 at *
    clear u0 u1 u2 u3 u4 u5 u6 u7 v0 v1 v2 v3 v4 v5 v6 v7
    have u0 := T.out.s.at 0 _ rfl
    have u1 := T.out.s.at 1 _ rfl
    have u2 := T.out.s.at 2 _ rfl
    have u3 := T.out.s.at 3 _ rfl
    have u4 := T.out.s.at 4 _ rfl
    have u5 := T.out.s.at 5 _ rfl
    have u6 := T.out.s.at 6 _ rfl
    have u7 := T.out.s.at 7 _ rfl
    have v0 := T.out.s.f 0
    have v1 := T.out.s.f 1
    have v2 := T.out.s.f 2
    have v3 := T.out.s.f 3
    have v4 := T.out.s.f 4
    have v5 := T.out.s.f 5
    have v6 := T.out.s.f 6
    have v7 := T.out.s.f 7
    have r0 := T.out.r.at 0 _ rfl
    have r1 := T.out.r.at 1 _ rfl
    have r2 := T.out.r.at 2 _ rfl
    have r3 := T.out.r.at 3 _ rfl
    have r4 := T.out.r.at 4 _ rfl
    have r5 := T.out.r.at 5 _ rfl
    have r6 := T.out.r.at 6 _ rfl
    have r7 := T.out.r.at 7 _ rfl
    have f0 := T.out.r.f 0
    have f1 := T.out.r.f 1
    have f2 := T.out.r.f 2
    have f3 := T.out.r.f 3
    have f4 := T.out.r.f 4
    have f5 := T.out.r.f 5
    have f6 := T.out.r.f 6
    have f7 := T.out.r.f 7
    have HE := Lib.hid (T.out.fin (M := N + 140) (by omega))
    have HR := Lib.hid T.out.s.lt
    clear T
    go_wp2
    refine bodyPost_ret ?_ rfl ⟨{ x with kind := y }, _, rfl, HSZ.out, Nat.le_succ_of_le htl, HE.out _ _ _ _ _ _ _ _⟩
    simp [results, Tryz.results32, go_sem, r0, r1, r2, r3, r4, r5, r6, r7]
  by_cases e2 : r = 2
  · skip
    go_wp2_with fail
    refine (l02Bent_any g B _ _ T.out.src (by omega)).mono ?_
    rintro e w4 ⟨y, z, rfl, S4, K4⟩
    have T := Lib.hid (T.out.kept S4 K4)
    clear S4 K4
    have u0 := T.out.s.at 0 _ rfl
    have u1 := T.out.s.at 1 _ rfl
    have u2 := T.out.s.at 2 _ rfl
    have u3 := T.out.s.at 3 _ rfl
    have u4 := T.out.s.at 4 _ rfl
    have u5 := T.out.s.at 5 _ rfl
    have u6 := T.out.s.at 6 _ rfl
    have u7 := T.out.s.at 7 _ rfl
    have v0 := T.out.s.f 0
    have v1 := T.out.s.f 1
    have v2 := T.out.s.f 2
    have v3 := T.out.s.f 3
    have v4 := T.out.s.f 4
    have v5 := T.out.s.f 5
    have v6 := T.out.s.f 6
    have v7 := T.out.s.f 7
    have T := Lib.hid ((T.out.num y).den z)
    go_upto_region 13 with fail
    generalize (w4.setCell ⟨b, 2, none⟩ (.int .i64 y)).setCell ⟨b, 3, none⟩ (.int .i64 z) = W5 at *
    clear u0 u1 u2 u3 u4 u5 u6 u7 v0 v1 v2 v3 v4 v5 v6 v7
    have u0 := T.out.s.at 0 _ rfl
    have u1 := T.out.s.at 1 _ rfl
    have u2 := T.out.s.at 2 _ rfl
    have u3 := T.out.s.at 3 _ rfl
    have u4 := T.out.s.at 4 _ rfl
    have u5 := T.out.s.at 5 _ rfl
    have u6 := T.out.s.at 6 _ rfl
    have u7 := T.out.s.at 7 _ rfl
    have v0 := T.out.s.f 0
    have v1 := T.out.s.f 1
    have v2 := T.out.s.f 2
    have v3 := T.out.s.f 3
    have v4 := T.out.s.f 4
    have v5 := T.out.s.f 5
    have v6 := T.out.s.f 6
    have v7 := T.out.s.f 7
    have r0 := T.out.r.at 0 _ rfl
    have r1 := T.out.r.at 1 _ rfl
    have r2 := T.out.r.at 2 _ rfl
    have r3 := T.out.r.at 3 _ rfl
    have r4 := T.out.r.at 4 _ rfl
    have r5 := T.out.r.at 5 _ rfl
    have r6 := T.out.r.at 6 _ rfl
    have r7 := T.out.r.at 7 _ rfl
    have f0 := T.out.r.f 0
    have f1 := T.out.r.f 1
    have f2 := T.out.r.f 2
    have f3 := T.out.r.f 3
    have f4 := T.out.r.f 4
    have f5 := T.out.r.f 5
    have f6 := T.out.r.f 6
    have f7 := T.out.r.f 7
    have HE := Lib.hid (T.out.fin (M := N + 140) (by omega))
    have HR := Lib.hid T.out.s.lt
    clear T
    go_wp2
    refine bodyPost_ret ?_ rfl ⟨{ x with num := y, den := z }, _, rfl, HSZ.out, Nat.le_succ_of_le htl, HE.out _ _ _ _ _ _ _ _⟩
    simp [results, Tryz.results32, go_sem, r0, r1, r2, r3, r4, r5, r6, r7]
  by_cases e3 : r = 3
  · skip
    have u0 := T.out.s.at 0 _ rfl
    have u1 := T.out.s.at 1 _ rfl
    have u2 := T.out.s.at 2 _ rfl
    have u3 := T.out.s.at 3 _ rfl
    have u4 := T.out.s.at 4 _ rfl
    have u5 := T.out.s.at 5 _ rfl
    have u6 := T.out.s.at 6 _ rfl
    have u7 := T.out.s.at 7 _ rfl
    have v0 := T.out.s.f 0
    have v1 := T.out.s.f 1
    have v2 := T.out.s.f 2
    have v3 := T.out.s.f 3
    have v4 := T.out.s.f 4
    have v5 := T.out.s.f 5
    have v6 := T.out.s.f 6
    have v7 := T.out.s.f 7
    have hbl := T.out.s.lt
    have T0 := T
    go_wp2_with fail
    first | go_region_law (first
      | (go_simp; go_at_call 61; ((with_reducible refine (srcPick_any g B _ 3 _ (T0.out.src.next (ext_drew (Below.refl _ _))) (by omega) (by omega)).mono ?_); rintro e w3 ⟨y, y1, y2, rfl, S3, K3'⟩; have K3 : Keep g w2 w3 := (Keep.refl g w2).drew.trans K3'; have T3 := Lib.hid (T0.out.kept S3 K3); have hb3 : w.heap.size + 1 ≤ w3.heap.size + 1 := Nat.succ_le_succ T3.out.keep.2.1; have hb4 : b < w3.heap.size := T3.out.s.lt; have m4 := T3.out.s.at 4 _ rfl; have n4 := T3.out.s.f 4))
      | (refine step_append_lies _ (by rfl) _ _ _ (by rfl) (w.heap.size + 1) 2 ti (.int .i64 0) 1 8 Tryz.underlying27 HI.out hz0 hz1 hz2 rfl (by decide) _ _ _ (by rfl) (T3.out.next (ext1 w3 (.cells #[.int .i64 y] 2))).row ⟨w3.heap.size, 0, none⟩ 1 1 [.int .i64 y] (by rfl) (by rfl) (news_row1 _ _ _ rfl) (by simp [Value.oneCell']) (by omega) (by unfold maxLen; omega) (by omega) (by simp only [World.size_alloc]; exact hb3) _ rfl ?_; intro g6 cap6 w6 hown6 hgrow hat hlt; have B6 := (T3.out.next (ext1 w3 (.cells #[.int .i64 y] 2))).s.grown hgrow T3.out.far; have z4 := B6.at 4 _ rfl; have G4 := B6.f 4)
      | fail) | fail
    all_goals
      have hf6 : (Value.slice (some ⟨g6, 0, none⟩) (x.terms.length + 1) cap6).ownBlock ≠ some b := by
        intro e
        have e2 : g6 = b := by injection e
        rcases hat with h | h
        · exact T3.out.far (by rw [h, e2])
        · (try simp at h); omega
      have T := Lib.hid (SN.push (y := y) (T3.out.next (ext1 w3 (.cells #[.int .i64 y] 2))) hown6 hgrow hf6)
      have HTL : Hid ((x.terms ++ [y]).length = x.terms.length + 1) := by unfold Hid; rw [List.length_append]; rfl
      clear hf6 hown6 hgrow hat hlt B6 z4 G4 m4 n4 T3 K3 S3 T0 hb3
      generalize w6.setCell ⟨b, 4, none⟩ (.slice (some ⟨g6, 0, none⟩) (x.terms.length + 1) cap6) = W5 at *
      clear u0 u1 u2 u3 u4 u5 u6 u7 v0 v1 v2 v3 v4 v5 v6 v7
      have u0 := T.out.s.at 0 _ rfl
      have u1 := T.out.s.at 1 _ rfl
      have u2 := T.out.s.at 2 _ rfl
      have u3 := T.out.s.at 3 _ rfl
      have u4 := T.out.s.at 4 _ rfl
      have u5 := T.out.s.at 5 _ rfl
      have u6 := T.out.s.at 6 _ rfl
      have u7 := T.out.s.at 7 _ rfl
      have v0 := T.out.s.f 0
      have v1 := T.out.s.f 1
      have v2 := T.out.s.f 2
      have v3 := T.out.s.f 3
      have v4 := T.out.s.f 4
      have v5 := T.out.s.f 5
      have v6 := T.out.s.f 6
      have v7 := T.out.s.f 7
      have r0 := T.out.r.at 0 _ rfl
      have r1 := T.out.r.at 1 _ rfl
      have r2 := T.out.r.at 2 _ rfl
      have r3 := T.out.r.at 3 _ rfl
      have r4 := T.out.r.at 4 _ rfl
      have r5 := T.out.r.at 5 _ rfl
      have r6 := T.out.r.at 6 _ rfl
      have r7 := T.out.r.at 7 _ rfl
      have f0 := T.out.r.f 0
      have f1 := T.out.r.f 1
      have f2 := T.out.r.f 2
      have f3 := T.out.r.f 3
      have f4 := T.out.r.f 4
      have f5 := T.out.r.f 5
      have f6 := T.out.r.f 6
      have f7 := T.out.r.f 7
      have HE := Lib.hid (T.out.fin (M := N + 140) (by omega))
      clear T
      go_wp2
      refine bodyPost_ret ?_ rfl ⟨⟨x.name, x.kind, x.num, x.den, x.terms ++ [y], x.sp, x.sd, x.sq⟩, _, rfl, HSZ.out, by rw [HTL.out]; omega, HE.out _ _ _ _ _ _ _ _⟩
      simp [results, Tryz.results32, go_sem, r0, r1, r2, r3, r4, r5, r6, r7]
  by_cases e4 : r = 4
  · skip
    go_wp2_with fail
    refine (l07Bent_any g B _ _ T.out.src (by omega)).mono ?_
    rintro e w4 ⟨y, z, q, rfl, S4, K4⟩
    have T := Lib.hid (T.out.kept S4 K4)
    clear S4 K4
    have u0 := T.out.s.at 0 _ rfl
    have u1 := T.out.s.at 1 _ rfl
    have u2 := T.out.s.at 2 _ rfl
    have u3 := T.out.s.at 3 _ rfl
    have u4 := T.out.s.at 4 _ rfl
    have u5 := T.out.s.at 5 _ rfl
    have u6 := T.out.s.at 6 _ rfl
    have u7 := T.out.s.at 7 _ rfl
    have v0 := T.out.s.f 0
    have v1 := T.out.s.f 1
    have v2 := T.out.s.f 2
    have v3 := T.out.s.f 3
    have v4 := T.out.s.f 4
    have v5 := T.out.s.f 5
    have v6 := T.out.s.f 6
    have v7 := T.out.s.f 7
    have T := Lib.hid (((T.out.sp y).sd z).sq q)
    go_upto_region 13 with fail
    generalize ((w4.setCell ⟨b, 5, none⟩ (.int .i64 y)).setCell ⟨b, 6, none⟩ (.int .i64 z)).setCell ⟨b, 7, none⟩ (.int .i64 q) = W5 at *
    clear u0 u1 u2 u3 u4 u5 u6 u7 v0 v1 v2 v3 v4 v5 v6 v7
    have u0 := T.out.s.at 0 _ rfl
    have u1 := T.out.s.at 1 _ rfl
    have u2 := T.out.s.at 2 _ rfl
    have u3 := T.out.s.at 3 _ rfl
    have u4 := T.out.s.at 4 _ rfl
    have u5 := T.out.s.at 5 _ rfl
    have u6 := T.out.s.at 6 _ rfl
    have u7 := T.out.s.at 7 _ rfl
    have v0 := T.out.s.f 0
    have v1 := T.out.s.f 1
    have v2 := T.out.s.f 2
    have v3 := T.out.s.f 3
    have v4 := T.out.s.f 4
    have v5 := T.out.s.f 5
    have v6 := T.out.s.f 6
    have v7 := T.out.s.f 7
    have r0 := T.out.r.at 0 _ rfl
    have r1 := T.out.r.at 1 _ rfl
    have r2 := T.out.r.at 2 _ rfl
    have r3 := T.out.r.at 3 _ rfl
    have r4 := T.out.r.at 4 _ rfl
    have r5 := T.out.r.at 5 _ rfl
    have r6 := T.out.r.at 6 _ rfl
    have r7 := T.out.r.at 7 _ rfl
    have f0 := T.out.r.f 0
    have f1 := T.out.r.f 1
    have f2 := T.out.r.f 2
    have f3 := T.out.r.f 3
    have f4 := T.out.r.f 4
    have f5 := T.out.r.f 5
    have f6 := T.out.r.f 6
    have f7 := T.out.r.f 7
    have HE := Lib.hid (T.out.fin (M := N + 140) (by omega))
    clear T
    go_wp2
    refine bodyPost_ret ?_ rfl ⟨{ x with sp := y, sd := z, sq := q }, _, rfl, HSZ.out, Nat.le_succ_of_le htl, HE.out _ _ _ _ _ _ _ _⟩
    simp [results, Tryz.results32, go_sem, r0, r1, r2, r3, r4, r5, r6, r7]
  have u0 := T.out.s.at 0 _ rfl
  have u1 := T.out.s.at 1 _ rfl
  have u2 := T.out.s.at 2 _ rfl
  have u3 := T.out.s.at 3 _ rfl
  have u4 := T.out.s.at 4 _ rfl
  have u5 := T.out.s.at 5 _ rfl
  have u6 := T.out.s.at 6 _ rfl
  have u7 := T.out.s.at 7 _ rfl
  have v0 := T.out.s.f 0
  have v1 := T.out.s.f 1
  have v2 := T.out.s.f 2
  have v3 := T.out.s.f 3
  have v4 := T.out.s.f 4
  have v5 := T.out.s.f 5
  have v6 := T.out.s.f 6
  have v7 := T.out.s.f 7
  clear u0 u1 u2 u3 u4 u5 u6 u7 v0 v1 v2 v3 v4 v5 v6 v7
  have u0 := T.out.s.at 0 _ rfl
  have u1 := T.out.s.at 1 _ rfl
  have u2 := T.out.s.at 2 _ rfl
  have u3 := T.out.s.at 3 _ rfl
  have u4 := T.out.s.at 4 _ rfl
  have u5 := T.out.s.at 5 _ rfl
  have u6 := T.out.s.at 6 _ rfl
  have u7 := T.out.s.at 7 _ rfl
  have v0 := T.out.s.f 0
  have v1 := T.out.s.f 1
  have v2 := T.out.s.f 2
  have v3 := T.out.s.f 3
  have v4 := T.out.s.f 4
  have v5 := T.out.s.f 5
  have v6 := T.out.s.f 6
  have v7 := T.out.s.f 7
  have r0 := T.out.r.at 0 _ rfl
  have r1 := T.out.r.at 1 _ rfl
  have r2 := T.out.r.at 2 _ rfl
  have r3 := T.out.r.at 3 _ rfl
  have r4 := T.out.r.at 4 _ rfl
  have r5 := T.out.r.at 5 _ rfl
  have r6 := T.out.r.at 6 _ rfl
  have r7 := T.out.r.at 7 _ rfl
  have f0 := T.out.r.f 0
  have f1 := T.out.r.f 1
  have f2 := T.out.r.f 2
  have f3 := T.out.r.f 3
  have f4 := T.out.r.f 4
  have f5 := T.out.r.f 5
  have f6 := T.out.r.f 6
  have f7 := T.out.r.f 7
  have HE := Lib.hid (T.out.fin (M := N + 140) (by omega))
  clear T
  go_wp2
  refine bodyPost_ret ?_ rfl ⟨x, _, rfl, HSZ.out, Nat.le_succ_of_le htl, HE.out _ _ _ _ _ _ _ _⟩
  simp [results, Tryz.results32, go_sem, r0, r1, r2, r3, r4, r5, r6, r7]
end Go.Proofs.YtpnabggpdgjbmaaGreatDoor
