/- Parts of the proof, merged: DrawSbW DrawTxW DrawNtW Named Notes SurdW. No condition but those that each theorem names. -/
import Derived.Test.YtpnabggpdgjbmaaGreatDoorMgAD
import Derived.Deep.DeepCutAuto
import Derived.Test.YtpnabggpdgjbmaaGreatDoorMgAC
import Derived.Test.YtpnabggpdgjbmaaGreatDoorMgAB
namespace Go.Proofs.YtpnabggpdgjbmaaGreatDoor
open Go.RowKit Go.Sort
/-- The state of the draw: the result's box, the surd's box, the source. -/
structure SB (g B N b : Nat) (p d q : Int) (w W : World) : Prop where
  src : Src g B N W
  keep : Keep g w W
  r : BoxV w.heap.size [.int .i64 0, .int .i64 0, .int .i64 0] W
  s : BoxV b [.int .i64 p, .int .i64 d, .int .i64 q] W
  hb : w.heap.size < b
  hg : g < w.heap.size
section
variable {g B N M b : Nat} {p d q : Int} {w W W' : World}
theorem SB.kept (t : SB g B N b p d q w W) (hs : Src g B M W') (k : Keep g W W') : SB g B M b p d q w W' :=
  ⟨hs, t.keep.trans k, t.r.keepK k (by have := t.hg; omega), t.s.keepK k (by have := t.hg; have := t.hb; omega), t.hb, t.hg⟩
theorem SB.next (t : SB g B N b p d q w W) (hb : Below W.heap.size W W') : SB g B N b p d q w W' := t.kept (t.src.next hb) (Keep.of hb t.src.lt)
theorem SB.set0 (t : SB g B N b p d q w W) (x : Int) : SB g B N b x d q w (W.setCell ⟨b, 0, none⟩ (.int .i64 x)) :=
  ⟨t.src.setOther (Nat.lt_trans t.hg t.hb) _ _, t.keep.setOther t.hg (Nat.le_of_lt t.hb) _ _, t.r.setFar _ (by have := t.hb; omega), t.s.set 0 _ (by simp), t.hb, t.hg⟩
theorem SB.set1 (t : SB g B N b p d q w W) (x : Int) : SB g B N b p x q w (W.setCell ⟨b, 1, none⟩ (.int .i64 x)) :=
  ⟨t.src.setOther (Nat.lt_trans t.hg t.hb) _ _, t.keep.setOther t.hg (Nat.le_of_lt t.hb) _ _, t.r.setFar _ (by have := t.hb; omega), t.s.set 1 _ (by simp), t.hb, t.hg⟩
theorem SB.set2 (t : SB g B N b p d q w W) (x : Int) : SB g B N b p d x w (W.setCell ⟨b, 2, none⟩ (.int .i64 x)) :=
  ⟨t.src.setOther (Nat.lt_trans t.hg t.hb) _ _, t.keep.setOther t.hg (Nat.le_of_lt t.hb) _ _, t.r.setFar _ (by have := t.hb; omega), t.s.set 2 _ (by simp), t.hb, t.hg⟩
theorem SB.fin (t : SB g B N b p d q w W) (hM : N ≤ M) (x y z : Value) : Src g B M (((W.setCell ⟨w.heap.size, 0, none⟩ x).setCell ⟨w.heap.size, 1, none⟩ y).setCell ⟨w.heap.size, 2, none⟩ z) ∧ Keep g w (((W.setCell ⟨w.heap.size, 0, none⟩ x).setCell ⟨w.heap.size, 1, none⟩ y).setCell ⟨w.heap.size, 2, none⟩ z) :=
  ⟨(((t.src.more hM).setOther t.hg _ _).setOther t.hg _ _).setOther t.hg _ _, ((t.keep.setOther t.hg (Nat.le_refl _) _ _).setOther t.hg (Nat.le_refl _) _ _).setOther t.hg (Nat.le_refl _) _ _⟩
end
set_option maxRecDepth 100000 in
set_option maxHeartbeats 4000000 in
theorem l07Bent_any (g B N : Nat) (w : World) (h : Src g B N w) (hN : N ≤ 700000) :
    Calls Tryz.prog 74 #[.pointer (some ⟨g, 0, none⟩)] w (RetSd g B (N + 60) w) := by
  have HG := Lib.hid h.lt
  have S := Lib.hid (h.next (ext1 w (.cells #[.int .i64 0, .int .i64 0, .int .i64 0] 29)))
  have K := Lib.hid (Keep.of (ext1 w (.cells #[.int .i64 0, .int .i64 0, .int .i64 0] 29)) h.lt)
  have R := Lib.hid (BoxV.new w #[.int .i64 0, .int .i64 0, .int .i64 0] 29)
  clear h
  go_enter Tryz.func74, Tryz.ntmps74
  go_wp2_with fail
  generalize w.alloc (.cells #[.int .i64 0, .int .i64 0, .int .i64 0] 29) = W0 at *
  refine (l07Draw_any g B N _ S.out (by omega)).mono ?_
  rintro e w1 ⟨p, d, q, rfl, S1, K1⟩
  have S := Lib.hid S1
  have R := Lib.hid (BoxV.keepK R.out K1 (by have := HG.out; omega))
  have K := Lib.hid (K.out.trans K1)
  clear S1 K1
  have T : Hid (SB g B (N + 40) w1.heap.size p d q w (w1.alloc (.cells #[.int .i64 p, .int .i64 d, .int .i64 q] 29))) :=
    ⟨S.out.next (ext1 _ _), K.out.trans (Keep.of (ext1 _ _) S.out.lt), R.out.next (ext1 _ _), BoxV.new _ _ _, R.out.lt, HG.out⟩
  clear S K R
  go_wp2_with fail
  generalize w1.alloc (.cells #[.int .i64 p, .int .i64 d, .int .i64 q] 29) = W1 at *
  refine (srcPick_any g B _ 20 _ T.out.src (by omega) (by omega)).mono ?_
  rintro e w2 ⟨r, r1, r2, rfl, S2, K2⟩
  have T := Lib.hid (T.out.kept S2 K2)
  generalize w1.heap.size = b at *
  clear S2 K2
  by_cases e0 : r = 0
  · skip
    go_wp2_with fail
    refine (srcAmong_any g B _ _ _ [-1000001, -1000000, 1000000, 1000001, -9223372036854775808] _ (T.out.src.next (ext1 _ _)) (by omega) (rd_lit _ _ _ _ rfl) (fun b o e => by injection e with e; injection e; have := T.out.src.lt; omega) (by simp) (by simp)).mono ?_
    rintro e w4 ⟨x, hx, rfl, S4, K4⟩
    have T := Lib.hid ((T.out.next (ext1 w2 (.cells #[.int .i64 (-1000001), .int .i64 (-1000000), .int .i64 1000000, .int .i64 1000001, .int .i64 (-9223372036854775808)] 2))).kept S4 K4)
    clear hx S4 K4
    have r0 := T.out.r.at 0 _ rfl
    have r1 := T.out.r.at 1 _ rfl
    have r2 := T.out.r.at 2 _ rfl
    have f0 := T.out.r.f 0
    have f1 := T.out.r.f 1
    have f2 := T.out.r.f 2
    have u0 := T.out.s.at 0 _ rfl
    have u1 := T.out.s.at 1 _ rfl
    have u2 := T.out.s.at 2 _ rfl
    have v0 := T.out.s.f 0
    have v1 := T.out.s.f 1
    have v2 := T.out.s.f 2
    have T := Lib.hid ((T.out.set0 x).set2 1)
    go_upto_region 14 with fail
    generalize (w4.setCell ⟨b, 0, none⟩ (.int .i64 x)).setCell ⟨b, 2, none⟩ (.int .i64 1) = W5 at *
    clear r0 r1 r2 f0 f1 f2 u0 u1 u2 v0 v1 v2
    have r0 := T.out.r.at 0 _ rfl
    have r1 := T.out.r.at 1 _ rfl
    have r2 := T.out.r.at 2 _ rfl
    have f0 := T.out.r.f 0
    have f1 := T.out.r.f 1
    have f2 := T.out.r.f 2
    have u0 := T.out.s.at 0 _ rfl
    have u1 := T.out.s.at 1 _ rfl
    have u2 := T.out.s.at 2 _ rfl
    have v0 := T.out.s.f 0
    have v1 := T.out.s.f 1
    have v2 := T.out.s.f 2
    obtain ⟨s0, s1, s2⟩ := set_three r0 r1 r2
    have HE := Lib.hid (T.out.fin (M := N + 60) (by omega))
    clear T
    go_wp2
    refine bodyPost_ret ?_ rfl ⟨x, d, 1, rfl, (HE.out _ _ _).1, (HE.out _ _ _).2⟩
    simp [results, Tryz.results74, go_sem, s0, s1, s2]
  by_cases e1 : r = 1
  · skip
    go_wp2_with fail
    refine (srcAmong_any g B _ _ _ [0, 1, 2, 4, 999999, 1000000, 1000001, -5] _ (T.out.src.next (ext1 _ _)) (by omega) (rd_lit _ _ _ _ rfl) (fun b o e => by injection e with e; injection e; have := T.out.src.lt; omega) (by simp) (by simp)).mono ?_
    rintro e w4 ⟨x, hx, rfl, S4, K4⟩
    have T := Lib.hid ((T.out.next (ext1 w2 (.cells #[.int .i64 0, .int .i64 1, .int .i64 2, .int .i64 4, .int .i64 999999, .int .i64 1000000, .int .i64 1000001, .int .i64 (-5)] 2))).kept S4 K4)
    clear hx S4 K4
    have r0 := T.out.r.at 0 _ rfl
    have r1 := T.out.r.at 1 _ rfl
    have r2 := T.out.r.at 2 _ rfl
    have f0 := T.out.r.f 0
    have f1 := T.out.r.f 1
    have f2 := T.out.r.f 2
    have u0 := T.out.s.at 0 _ rfl
    have u1 := T.out.s.at 1 _ rfl
    have u2 := T.out.s.at 2 _ rfl
    have v0 := T.out.s.f 0
    have v1 := T.out.s.f 1
    have v2 := T.out.s.f 2
    have T := Lib.hid (T.out.set1 x)
    go_upto_region 14 with fail
    generalize w4.setCell ⟨b, 1, none⟩ (.int .i64 x) = W5 at *
    clear r0 r1 r2 f0 f1 f2 u0 u1 u2 v0 v1 v2
    have r0 := T.out.r.at 0 _ rfl
    have r1 := T.out.r.at 1 _ rfl
    have r2 := T.out.r.at 2 _ rfl
    have f0 := T.out.r.f 0
    have f1 := T.out.r.f 1
    have f2 := T.out.r.f 2
    have u0 := T.out.s.at 0 _ rfl
    have u1 := T.out.s.at 1 _ rfl
    have u2 := T.out.s.at 2 _ rfl
    have v0 := T.out.s.f 0
    have v1 := T.out.s.f 1
    have v2 := T.out.s.f 2
    obtain ⟨s0, s1, s2⟩ := set_three r0 r1 r2
    have HE := Lib.hid (T.out.fin (M := N + 60) (by omega))
    clear T
    go_wp2
    refine bodyPost_ret ?_ rfl ⟨p, x, q, rfl, (HE.out _ _ _).1, (HE.out _ _ _).2⟩
    simp [results, Tryz.results74, go_sem, s0, s1, s2]
  by_cases e2 : r = 2
  · skip
    go_wp2_with fail
    refine (srcAmong_any g B _ _ _ [0, 1, -1, 1000000, 1000001, -9223372036854775808] _ (T.out.src.next (ext1 _ _)) (by omega) (rd_lit _ _ _ _ rfl) (fun b o e => by injection e with e; injection e; have := T.out.src.lt; omega) (by simp) (by simp)).mono ?_
    rintro e w4 ⟨x, hx, rfl, S4, K4⟩
    have T := Lib.hid ((T.out.next (ext1 w2 (.cells #[.int .i64 0, .int .i64 1, .int .i64 (-1), .int .i64 1000000, .int .i64 1000001, .int .i64 (-9223372036854775808)] 2))).kept S4 K4)
    clear hx S4 K4
    have r0 := T.out.r.at 0 _ rfl
    have r1 := T.out.r.at 1 _ rfl
    have r2 := T.out.r.at 2 _ rfl
    have f0 := T.out.r.f 0
    have f1 := T.out.r.f 1
    have f2 := T.out.r.f 2
    have u0 := T.out.s.at 0 _ rfl
    have u1 := T.out.s.at 1 _ rfl
    have u2 := T.out.s.at 2 _ rfl
    have v0 := T.out.s.f 0
    have v1 := T.out.s.f 1
    have v2 := T.out.s.f 2
    have T := Lib.hid (T.out.set2 x)
    go_upto_region 14 with fail
    generalize w4.setCell ⟨b, 2, none⟩ (.int .i64 x) = W5 at *
    clear r0 r1 r2 f0 f1 f2 u0 u1 u2 v0 v1 v2
    have r0 := T.out.r.at 0 _ rfl
    have r1 := T.out.r.at 1 _ rfl
    have r2 := T.out.r.at 2 _ rfl
    have f0 := T.out.r.f 0
    have f1 := T.out.r.f 1
    have f2 := T.out.r.f 2
    have u0 := T.out.s.at 0 _ rfl
    have u1 := T.out.s.at 1 _ rfl
    have u2 := T.out.s.at 2 _ rfl
    have v0 := T.out.s.f 0
    have v1 := T.out.s.f 1
    have v2 := T.out.s.f 2
    obtain ⟨s0, s1, s2⟩ := set_three r0 r1 r2
    have HE := Lib.hid (T.out.fin (M := N + 60) (by omega))
    clear T
    go_wp2
    refine bodyPost_ret ?_ rfl ⟨p, d, x, rfl, (HE.out _ _ _).1, (HE.out _ _ _).2⟩
    simp [results, Tryz.results74, go_sem, s0, s1, s2]
  by_cases e3 : r = 3
  · skip
    have r0 := T.out.r.at 0 _ rfl
    have r1 := T.out.r.at 1 _ rfl
    have r2 := T.out.r.at 2 _ rfl
    have f0 := T.out.r.f 0
    have f1 := T.out.r.f 1
    have f2 := T.out.r.f 2
    have u0 := T.out.s.at 0 _ rfl
    have u1 := T.out.s.at 1 _ rfl
    have u2 := T.out.s.at 2 _ rfl
    have v0 := T.out.s.f 0
    have v1 := T.out.s.f 1
    have v2 := T.out.s.f 2
    obtain ⟨q', hq'⟩ : ∃ q', IntKind.i64.wrap (q + 1) = q' := ⟨_, rfl⟩
    have T := Lib.hid (T.out.set2 q')
    go_upto_region 14 with fail
    clear hq'
    generalize w2.setCell ⟨b, 2, none⟩ (.int .i64 q') = W5 at *
    clear r0 r1 r2 f0 f1 f2 u0 u1 u2 v0 v1 v2
    have r0 := T.out.r.at 0 _ rfl
    have r1 := T.out.r.at 1 _ rfl
    have r2 := T.out.r.at 2 _ rfl
    have f0 := T.out.r.f 0
    have f1 := T.out.r.f 1
    have f2 := T.out.r.f 2
    have u0 := T.out.s.at 0 _ rfl
    have u1 := T.out.s.at 1 _ rfl
    have u2 := T.out.s.at 2 _ rfl
    have v0 := T.out.s.f 0
    have v1 := T.out.s.f 1
    have v2 := T.out.s.f 2
    obtain ⟨s0, s1, s2⟩ := set_three r0 r1 r2
    have HE := Lib.hid (T.out.fin (M := N + 60) (by omega))
    clear T
    go_wp2
    refine bodyPost_ret ?_ rfl ⟨p, d, q', rfl, (HE.out _ _ _).1, (HE.out _ _ _).2⟩
    simp [results, Tryz.results74, go_sem, s0, s1, s2]
  by_cases e4 : r = 4
  · skip
    go_wp2_with fail
    refine (srcPick_any g B _ 9 _ T.out.src (by omega) (by omega)).mono ?_
    rintro e w4 ⟨y, y1, y2, rfl, S4, K4⟩
    have T := Lib.hid (T.out.kept S4 K4)
    clear S4 K4
    go_wp2_with fail
    refine (srcPick_any g B _ 5 _ T.out.src (by omega) (by omega)).mono ?_
    rintro e w5 ⟨z, z1, z2, rfl, S4, K4⟩
    have T := Lib.hid (T.out.kept S4 K4)
    clear S4 K4
    have r0 := T.out.r.at 0 _ rfl
    have r1 := T.out.r.at 1 _ rfl
    have r2 := T.out.r.at 2 _ rfl
    have f0 := T.out.r.f 0
    have f1 := T.out.r.f 1
    have f2 := T.out.r.f 2
    have u0 := T.out.s.at 0 _ rfl
    have u1 := T.out.s.at 1 _ rfl
    have u2 := T.out.s.at 2 _ rfl
    have v0 := T.out.s.f 0
    have v1 := T.out.s.f 1
    have v2 := T.out.s.f 2
    obtain ⟨s0, s1, s2⟩ := set_three r0 r1 r2
    have HE := Lib.hid (T.out.fin (M := N + 60) (by omega))
    clear T
    go_wp2
    refine bodyPost_ret ?_ rfl ⟨1000 + y, 999999 - z, 1, rfl, (HE.out _ _ _).1, (HE.out _ _ _).2⟩
    simp [results, Tryz.results74, go_sem, s0, s1, s2]
  have r0 := T.out.r.at 0 _ rfl
  have r1 := T.out.r.at 1 _ rfl
  have r2 := T.out.r.at 2 _ rfl
  have f0 := T.out.r.f 0
  have f1 := T.out.r.f 1
  have f2 := T.out.r.f 2
  have u0 := T.out.s.at 0 _ rfl
  have u1 := T.out.s.at 1 _ rfl
  have u2 := T.out.s.at 2 _ rfl
  have v0 := T.out.s.f 0
  have v1 := T.out.s.f 1
  have v2 := T.out.s.f 2
  obtain ⟨s0, s1, s2⟩ := set_three r0 r1 r2
  have HE := Lib.hid (T.out.fin (M := N + 60) (by omega))
  clear T
  go_wp2
  refine bodyPost_ret ?_ rfl ⟨p, d, q, rfl, (HE.out _ _ _).1, (HE.out _ _ _).2⟩
  simp [results, Tryz.results74, go_sem, s0, s1, s2]
end Go.Proofs.YtpnabggpdgjbmaaGreatDoor
namespace Go.Proofs.YtpnabggpdgjbmaaGreatDoor
open Go.RowKit Go.Sort
theorem srcText_any (g B N : Nat) (A : Option Addr) (c : Nat) (xs : List ByteArray) (w : World) (h : Src g B N w) (hN : N ≤ 1000000) (hx : Rd Value.string w w.heap.size A xs) (hA : ∀ b o, A = some ⟨b, o, none⟩ → b ≠ g) (h1 : 1 ≤ xs.length) (h2 : xs.length ≤ 100) :
    Calls Tryz.prog 33 #[.pointer (some ⟨g, 0, none⟩), .slice A xs.length c] w (fun e w' => ∃ x, x ∈ xs ∧ e = .returned (.string x) ∧ Src g B (N + 2) w' ∧ Keep g w w') := by
  have HS := Lib.hid h
  obtain ⟨b, off, rfl, hb, hc⟩ := hx (by omega)
  have hbg : b ≠ g := hA b off rfl
  have HC := Lib.hid hc
  clear h hc hx hA
  go_enter Tryz.func33, Tryz.ntmps33
  go_wp2_with fail
  refine (srcPick_any g B N xs.length _ HS.out hN (by omega)).mono ?_
  rintro e w1 ⟨x, x1, x2, rfl, S1, K1⟩
  obtain ⟨k, rfl⟩ : ∃ k : Nat, x = (k : Int) := ⟨x.toNat, by omega⟩
  have hk : k < xs.length := by omega
  have i0 : (0 : Int) ≤ (k : Int) := by omega
  have i1 : (k : Int) < (xs.length : Int) := by omega
  have c1 := (K1.cell (o := off + k) hbg hb).trans (HC.out k _ (List.getElem?_eq_getElem hk))
  go_wp2
  go_ret
  exact ⟨_, List.getElem_mem hk, rfl, S1, K1⟩
theorem rd_litS (W : World) (cs : Array Value) (T : TypeId) (xs : List ByteArray) (h : cs.toList = xs.map Value.string) : Rd Value.string (W.alloc (.cells cs T)) (W.alloc (.cells cs T)).heap.size (some ⟨W.heap.size, 0, none⟩) xs := fun _ =>
  ⟨W.heap.size, 0, rfl, by simp, fun j x hx => by
    rw [Nat.zero_add, cell_one, ← Array.getElem?_toList, h, List.getElem?_map, hx]; rfl⟩
end Go.Proofs.YtpnabggpdgjbmaaGreatDoor
namespace Go.Proofs.YtpnabggpdgjbmaaGreatDoor
open Go.RowKit Go.Sort
/-- What a draw of a list of terms returns: a row of the call's own. -/
def RetLo (g B N : Nat) (w : World) (e : Ending) (w' : World) : Prop := ∃ (xs : List Int) (v : Value), e = .returned v ∧ xs.length ≤ 9 ∧ SL g B N w xs v w'
set_option maxRecDepth 100000 in
set_option maxHeartbeats 2000000 in
theorem l03Draw_any (g B N : Nat) (w : World) (h : Src g B N w) (hN : N ≤ 800000) :
    Calls Tryz.prog 112 #[.pointer (some ⟨g, 0, none⟩), .int .i64 6] w (RetLo g B (N + 44) w) := by
  obtain ⟨ti, hi, hz0, hz1, hz2⟩ := info_parts info64
  have HI := Lib.hid hi
  have HG := Lib.hid h.lt
  have HS := Lib.hid h
  clear h hi
  go_enter Tryz.func112, Tryz.ntmps112
  go_wp2_with fail
  refine (srcPick_any g B N 21 _ HS.out (by omega) (by omega)).mono ?_
  rintro e w1 ⟨x, x1, x2, rfl, S1, K1⟩
  have T : Hid (SL g B (N + 2) w [x - 10] (.slice (some ⟨w1.heap.size, 0, none⟩) 1 1) (w1.alloc (.cells #[.int .i64 (x - 10)] 2))) :=
    ⟨S1.next (ext1 _ _), K1.trans (Keep.of (ext1 _ _) S1.lt), by
      have h := World.ownsRow_lit (base := w.heap.size) (e := 2) (size := 1) w1 #[.int .i64 (x - 10)] 1 K1.2.1 (by unfold maxLen; omega) rfl
      simpa using h, HG.out⟩
  clear S1 K1 HS
  go_wp2_with fail
  generalize w1.alloc (.cells #[.int .i64 (x - 10)] 2) = W1 at *
  refine (srcPick_any g B _ 6 _ T.out.src (by omega) (by omega)).mono ?_
  rintro e w2 ⟨k, k1, k2, rfl, S2, K2⟩
  have T := Lib.hid (T.out.kept S2 K2)
  generalize w1.heap.size = h1 at *
  clear S2 K2
  obtain ⟨m, rfl⟩ : ∃ m : Nat, k = (m : Int) := ⟨k.toNat, by omega⟩
  have hm3 : m ≤ 5 := by omega
  clear k1 k2
  go_wp2_with fail
  go_loopw [6, 5] (fun t v wr => ∃ (k : Nat) (out : List Int) (h c : Nat), t = .int .i64 k ∧ k ≤ 5 ∧ v = .slice (some ⟨h, 0, none⟩) out.length c ∧ 1 ≤ out.length ∧ out.length + k ≤ 6 ∧ Hid (SL g B (N + 4 + 8 * (5 - k)) w out v wr)) (fun t _ _ => (intOf t).toNat)
  case atStart => exact ⟨m, [x - 10], h1, 1, rfl, hm3, rfl, by simp, by simp; omega, T.out.more (by omega)⟩
  case round =>
    obtain ⟨k, out, h, c, rfl, hk, rfl, ho1, ho2, HT⟩ := hrel
    clear T
    have T := HT
    clear HT
    by_cases h0 : 0 < k
    · skip
      go_wp2_with fail
      refine (srcPick_any g B _ 6 _ T.out.src (by omega) (by omega)).mono ?_
      rintro e w3 ⟨y, y1, y2, rfl, S3, K3⟩
      have T := Lib.hid (T.out.kept S3 K3)
      clear S3 K3
      go_wp2_with fail
      refine (srcOne_any g B _ 8 _ T.out.src (by omega) (by omega)).mono ?_
      rintro e w4 ⟨b, rfl, S3, K3⟩
      have T := Lib.hid (T.out.kept S3 K3)
      clear S3 K3
      cases b
      · skip
        go_wp2_with fail
        refine (srcOne_any g B _ 3 _ T.out.src (by omega) (by omega)).mono ?_
        rintro e w5 ⟨d, rfl, S3, K3⟩
        have T := Lib.hid (T.out.kept S3 K3)
        clear S3 K3
        cases d
        · skip
          have hown := (T.out.next (ext1 w5 (.cells #[.int .i64 (1 + y)] 2))).row
          have hb4 : w.heap.size ≤ w5.heap.size + 1 := Nat.le_succ_of_le T.out.keep.2.1
          go_wp2_with (at_builtin; go_must (refine wpList_append_lies _ rfl _ _ 27 rfl w.heap.size 2 ti (.int .i64 0) 1 8 Tryz.underlying27 HI.out hz0 hz1 hz2 rfl (by decide) _ _ _ rfl hown ⟨w5.heap.size, 0, none⟩ 1 1 [.int .i64 (1 + y)] rfl rfl (news_row1 _ _ _ rfl) ?c2 (by omega) ?c3 ?c4 ?c5 _ rfl ?_))
          case c2 => simp [Value.oneCell']
          case c3 => unfold maxLen; omega
          case c4 => omega
          case c5 => simp; exact hb4
          intro g6 cap6 w6 hown6 hgrow _ _
          have T6 := Lib.hid (SL.push (x := 1 + y) (T.out.next (ext1 w5 (.cells #[.int .i64 (1 + y)] 2))) hown6 hgrow)
          have HLQ : Hid ((out ++ [1 + y]).length = out.length + 1) := by unfold Hid; rw [List.length_append]; rfl
          clear hown6 hgrow hown
          go_wp2
          go_roundw
          case rel => exact ⟨k - 1, out ++ [1 + y], g6, cap6, val_int (by omega), by omega, by rw [HLQ.out], by rw [HLQ.out]; omega, by rw [HLQ.out]; omega, T6.out.more (by omega)⟩
          case measure => simp [intOf]; omega
        · skip
          have hown := (T.out.next (ext1 w5 (.cells #[.int .i64 (1)] 2))).row
          have hb4 : w.heap.size ≤ w5.heap.size + 1 := Nat.le_succ_of_le T.out.keep.2.1
          go_wp2_with (at_builtin; go_must (refine wpList_append_lies _ rfl _ _ 27 rfl w.heap.size 2 ti (.int .i64 0) 1 8 Tryz.underlying27 HI.out hz0 hz1 hz2 rfl (by decide) _ _ _ rfl hown ⟨w5.heap.size, 0, none⟩ 1 1 [.int .i64 (1)] rfl rfl (news_row1 _ _ _ rfl) ?c2 (by omega) ?c3 ?c4 ?c5 _ rfl ?_))
          case c2 => simp [Value.oneCell']
          case c3 => unfold maxLen; omega
          case c4 => omega
          case c5 => simp; exact hb4
          intro g6 cap6 w6 hown6 hgrow _ _
          have T6 := Lib.hid (SL.push (x := 1) (T.out.next (ext1 w5 (.cells #[.int .i64 (1)] 2))) hown6 hgrow)
          have HLQ : Hid ((out ++ [1]).length = out.length + 1) := by unfold Hid; rw [List.length_append]; rfl
          clear hown6 hgrow hown
          go_wp2
          go_roundw
          case rel => exact ⟨k - 1, out ++ [1], g6, cap6, val_int (by omega), by omega, by rw [HLQ.out], by rw [HLQ.out]; omega, by rw [HLQ.out]; omega, T6.out.more (by omega)⟩
          case measure => simp [intOf]; omega
      · skip
        go_wp2_with fail
        refine (srcPick_any g B _ 60 _ T.out.src (by omega) (by omega)).mono ?_
        rintro e w5 ⟨z, z1, z2, rfl, S3, K3⟩
        have T := Lib.hid (T.out.kept S3 K3)
        clear S3 K3
        go_wp2_with fail
        refine (srcOne_any g B _ 3 _ T.out.src (by omega) (by omega)).mono ?_
        rintro e w6' ⟨d, rfl, S3, K3⟩
        have T := Lib.hid (T.out.kept S3 K3)
        clear S3 K3
        cases d
        · skip
          have hown := (T.out.next (ext1 w6' (.cells #[.int .i64 (1 + z)] 2))).row
          have hb4 : w.heap.size ≤ w6'.heap.size + 1 := Nat.le_succ_of_le T.out.keep.2.1
          go_wp2_with (at_builtin; go_must (refine wpList_append_lies _ rfl _ _ 27 rfl w.heap.size 2 ti (.int .i64 0) 1 8 Tryz.underlying27 HI.out hz0 hz1 hz2 rfl (by decide) _ _ _ rfl hown ⟨w6'.heap.size, 0, none⟩ 1 1 [.int .i64 (1 + z)] rfl rfl (news_row1 _ _ _ rfl) ?c2 (by omega) ?c3 ?c4 ?c5 _ rfl ?_))
          case c2 => simp [Value.oneCell']
          case c3 => unfold maxLen; omega
          case c4 => omega
          case c5 => simp; exact hb4
          intro g6 cap6 w6 hown6 hgrow _ _
          have T6 := Lib.hid (SL.push (x := 1 + z) (T.out.next (ext1 w6' (.cells #[.int .i64 (1 + z)] 2))) hown6 hgrow)
          have HLQ : Hid ((out ++ [1 + z]).length = out.length + 1) := by unfold Hid; rw [List.length_append]; rfl
          clear hown6 hgrow hown
          go_wp2
          go_roundw
          case rel => exact ⟨k - 1, out ++ [1 + z], g6, cap6, val_int (by omega), by omega, by rw [HLQ.out], by rw [HLQ.out]; omega, by rw [HLQ.out]; omega, T6.out.more (by omega)⟩
          case measure => simp [intOf]; omega
        · skip
          have hown := (T.out.next (ext1 w6' (.cells #[.int .i64 (1)] 2))).row
          have hb4 : w.heap.size ≤ w6'.heap.size + 1 := Nat.le_succ_of_le T.out.keep.2.1
          go_wp2_with (at_builtin; go_must (refine wpList_append_lies _ rfl _ _ 27 rfl w.heap.size 2 ti (.int .i64 0) 1 8 Tryz.underlying27 HI.out hz0 hz1 hz2 rfl (by decide) _ _ _ rfl hown ⟨w6'.heap.size, 0, none⟩ 1 1 [.int .i64 (1)] rfl rfl (news_row1 _ _ _ rfl) ?c2 (by omega) ?c3 ?c4 ?c5 _ rfl ?_))
          case c2 => simp [Value.oneCell']
          case c3 => unfold maxLen; omega
          case c4 => omega
          case c5 => simp; exact hb4
          intro g6 cap6 w6 hown6 hgrow _ _
          have T6 := Lib.hid (SL.push (x := 1) (T.out.next (ext1 w6' (.cells #[.int .i64 (1)] 2))) hown6 hgrow)
          have HLQ : Hid ((out ++ [1]).length = out.length + 1) := by unfold Hid; rw [List.length_append]; rfl
          clear hown6 hgrow hown
          go_wp2
          go_roundw
          case rel => exact ⟨k - 1, out ++ [1], g6, cap6, val_int (by omega), by omega, by rw [HLQ.out], by rw [HLQ.out]; omega, by rw [HLQ.out]; omega, T6.out.more (by omega)⟩
          case measure => simp [intOf]; omega
    · have HRT : Hid (RetLo g B (N + 44) w (.returned (.slice (some ⟨h, 0, none⟩) out.length c)) wr) := ⟨out, _, rfl, by omega, T.out.more (by omega)⟩
      clear T
      go_wp2
      go_ret
      exact HRT.out
end Go.Proofs.YtpnabggpdgjbmaaGreatDoor
namespace Go.Proofs.YtpnabggpdgjbmaaGreatDoor
open Go.RowKit Go.Sort
/-- A name with its terms. -/
structure Nd where
  name : ByteArray
  terms : List Int
instance : Inhabited Nd := ⟨⟨ByteArray.empty, []⟩⟩
theorem Rd.next {α : Type} {enc : α → Value} {w w' : World} {A : Option Addr} {xs : List α} (h : Rd enc w w.heap.size A xs) (hb : Below w.heap.size w w') : Rd enc w' w'.heap.size A xs := (h.below hb).more hb.size
/-- A slice of integers with its capacity. -/
def RdT (w : World) (B : Nat) (T : Option Addr) (c : Nat) (xs : List Int) : Prop := Rd (Value.int .i64) w B T xs ∧ xs.length ≤ c ∧ c ≤ maxLen
def WrT (w : World) (B : Nat) (T : Option Addr) (c : Nat) (xs : List Int) : Prop := Wr (Value.int .i64) w B T xs ∧ xs.length ≤ c ∧ c ≤ maxLen
section
variable {w w' : World} {B B' : Nat} {T : Option Addr} {c : Nat} {xs : List Int}
theorem RdT.below (h : RdT w B T c xs) (hb : Below B w w') : RdT w' B T c xs := ⟨h.1.below hb, h.2⟩
theorem RdT.more (h : RdT w B T c xs) (hB : B ≤ B') : RdT w B' T c xs := ⟨h.1.more hB, h.2⟩
theorem RdT.next (h : RdT w w.heap.size T c xs) (hb : Below w.heap.size w w') : RdT w' w'.heap.size T c xs := ⟨h.1.next hb, h.2⟩
theorem WrT.rd (h : WrT w B T c xs) : RdT w w.heap.size T c xs := ⟨h.1.rd, h.2⟩
theorem WrT.more (h : WrT w B T c xs) (hB : B' ≤ B) : WrT w B' T c xs := ⟨h.1.more hB, h.2⟩
theorem WrT.below (h : WrT w B T c xs) (hb : Below w.heap.size w w') : WrT w' B T c xs := ⟨h.1.below hb, h.2⟩
theorem WrT.setLow (h : WrT w B T c xs) {p : Addr} (hp : p.block < B) (u : Value) : WrT (w.setCell p u) B T c xs := ⟨h.1.setLow hp u, h.2⟩
end
section
variable {w w' : World} {B B' : Nat} {A : Option Addr} {xs : List Nd}
end
section
variable {w w' : World} {B B' : Nat} {A : Option Addr} {xs : List Nd}
end
end Go.Proofs.YtpnabggpdgjbmaaGreatDoor
namespace Go.Proofs.YtpnabggpdgjbmaaGreatDoor
open Go.RowKit Go.Sort
/-- A note. -/
structure Nt where
  name : ByteArray
  kind : Int
  num : Int
  den : Int
  terms : List Int
  sp : Int
  sd : Int
  sq : Int
instance : Inhabited Nt := ⟨⟨ByteArray.empty, 0, 0, 0, [], 0, 0, 0⟩⟩
def Nt.fits (x : Nt) : Prop := x.name.size ≤ maxLen ∧ x.terms.length ≤ maxLen
def ntC (x : Nt) (T : Option Addr) (c : Nat) : List Value := [.string x.name, .int .i64 x.kind, .int .i64 x.num, .int .i64 x.den, .slice T x.terms.length c, .int .i64 x.sp, .int .i64 x.sd, .int .i64 x.sq]
@[reducible] def ntV (s : ByteArray) (k n d : Int) (T : Option Addr) (l c : Nat) (p e q : Int) : Value := .agg #[.string s, .int .i64 k, .int .i64 n, .int .i64 d, .slice T l c, .int .i64 p, .int .i64 e, .int .i64 q]
@[reducible] def surdV (p d q : Int) : Value := .agg #[.int .i64 p, .int .i64 d, .int .i64 q]
/-- Values that lie in a row of block b from o on. -/
def RowAt (w : World) (b o : Nat) (vs : List Value) : Prop := ∀ i v, vs[i]? = some v → w.cell? ⟨b, o + i, none⟩ = some v
theorem RowAt.below {w w' : World} {B b o : Nat} {vs : List Value} (h : RowAt w b o vs) (hb : Below B w w') (hlt : b < B) : RowAt w' b o vs := fun i v hv => (hb.cell (p := ⟨b, o + i, none⟩) hlt).trans (h i v hv)
/-- The eight cells of a note, one by one. -/
structure NtAt (w : World) (b o : Nat) (x : Nt) (T : Option Addr) (c : Nat) : Prop where
  c0 : w.cell? ⟨b, o, none⟩ = some (.string x.name)
  c1 : w.cell? ⟨b, o + 1, none⟩ = some (.int .i64 x.kind)
  c2 : w.cell? ⟨b, o + 2, none⟩ = some (.int .i64 x.num)
  c3 : w.cell? ⟨b, o + 3, none⟩ = some (.int .i64 x.den)
  c4 : w.cell? ⟨b, o + 4, none⟩ = some (.slice T x.terms.length c)
  c5 : w.cell? ⟨b, o + 5, none⟩ = some (.int .i64 x.sp)
  c6 : w.cell? ⟨b, o + 6, none⟩ = some (.int .i64 x.sd)
  c7 : w.cell? ⟨b, o + 7, none⟩ = some (.int .i64 x.sq)
theorem RowAt.nt {w : World} {b o : Nat} {x : Nt} {T : Option Addr} {c : Nat} (h : RowAt w b o (ntC x T c)) : NtAt w b o x T c :=
  ⟨h 0 _ rfl, h 1 _ rfl, h 2 _ rfl, h 3 _ rfl, h 4 _ rfl, h 5 _ rfl, h 6 _ rfl, h 7 _ rfl⟩
def RdNt (w : World) (B : Nat) (A : Option Addr) (xs : List Nt) : Prop :=
  0 < xs.length → ∃ b off, A = some ⟨b, off, none⟩ ∧ b < B ∧ ∀ j x, xs[j]? = some x → ∃ T c, RowAt w b (off + j * 8) (ntC x T c) ∧ RdT w B T c x.terms
section
variable {w w' : World} {B B' : Nat} {A : Option Addr} {xs : List Nt}
theorem RdNt.below (h : RdNt w B A xs) (hb : Below B w w') : RdNt w' B A xs := fun hn => by
  obtain ⟨b, off, e, hlt, hc⟩ := h hn
  refine ⟨b, off, e, hlt, fun j x hx => ?_⟩
  obtain ⟨T, c, h1, h3⟩ := hc j x hx
  exact ⟨T, c, h1.below hb hlt, h3.below hb⟩
theorem RdNt.more (h : RdNt w B A xs) (hB : B ≤ B') : RdNt w B' A xs := fun hn => by
  obtain ⟨b, off, e, hlt, hc⟩ := h hn
  refine ⟨b, off, e, by omega, fun j x hx => ?_⟩
  obtain ⟨T, c, h1, h3⟩ := hc j x hx
  exact ⟨T, c, h1, h3.more hB⟩
theorem RdNt.next (h : RdNt w w.heap.size A xs) (hb : Below w.heap.size w w') : RdNt w' w'.heap.size A xs := (h.below hb).more hb.size
end
end Go.Proofs.YtpnabggpdgjbmaaGreatDoor
namespace Go.Proofs.YtpnabggpdgjbmaaGreatDoor
open Go.RowKit Go.Sort
def surdB (p d q : Int) : Bool := inR d 2 1000000 && (!sqB d && (inR p (-1000000) 1000000 && (inR q (-1000000) 1000000 && (!decide (q = 0) && decide ((d - p * p).tmod q = 0)))))
theorem surdB_true {p d q : Int} : surdB p d q = true ↔ (2 ≤ d ∧ d ≤ 1000000) ∧ sqB d = false ∧ (-1000000 ≤ p ∧ p ≤ 1000000) ∧ (-1000000 ≤ q ∧ q ≤ 1000000) ∧ q ≠ 0 ∧ (d - p * p).tmod q = 0 := by
  simp [surdB, inR]
theorem sq_bd {p : Int} (h : inR p (-1000000) 1000000 = true) : 0 ≤ p * p ∧ p * p ≤ 1000000000000 := by
  obtain ⟨h1, h2⟩ := inR_true.1 h
  rcases Int.le_total 0 p with g | g
  · exact ⟨Int.mul_nonneg g g, Int.le_trans (Int.mul_le_mul h2 h2 g (by omega)) (by omega)⟩
  · have e : p * p = (-p) * (-p) := by rw [Int.neg_mul_neg]
    rw [e]
    exact ⟨Int.mul_nonneg (by omega) (by omega), Int.le_trans (Int.mul_le_mul (show -p ≤ 1000000 by omega) (show -p ≤ 1000000 by omega) (by omega) (by omega)) (by omega)⟩
set_option maxHeartbeats 2000000 in
theorem ValidSurd_any (p d q : Int) (w : World) :
    Calls Tryz.prog 78 #[surdV p d q] w fun e w' => e = .returned (.bool (surdB p d q)) ∧ Below w.heap.size w w' := by
  unfold surdV surdB
  cases h1 : inR d 2 1000000
  · simp only [Bool.false_and]
    go_enter Tryz.func78, Tryz.ntmps78
    go_wp2_with (go_at_call 117; refine (within_any _ _ _ _).mono ?_; rintro e w' ⟨rfl, rfl⟩)
    go_ret
    exact ⟨rfl, ext1 _ _⟩
  · obtain ⟨d1, d2⟩ := inR_true.1 h1
    cases hp : inR p (-1000000) 1000000
    · simp only [Bool.false_and, Bool.and_false]
      cases h2 : sqB d
      all_goals
        go_enter Tryz.func78, Tryz.ntmps78
        go_wp2_with (first | (go_at_call 117; refine (within_any _ _ _ _).mono ?_; rintro e w' ⟨rfl, rfl⟩) | (go_at_call 121; refine (isSquare_any _ _ (by omega) (by omega)).mono ?_; rintro e w' ⟨rfl, rfl⟩))
        go_ret
        exact ⟨rfl, ext1 _ _⟩
    · obtain ⟨m1, m2⟩ := sq_bd hp
      obtain ⟨p1, p2⟩ := inR_true.1 hp
      cases hq : inR q (-1000000) 1000000
      · simp only [Bool.false_and, Bool.and_false]
        cases h2 : sqB d
        all_goals
          go_enter Tryz.func78, Tryz.ntmps78
          go_wp2_with (first | (go_at_call 117; refine (within_any _ _ _ _).mono ?_; rintro e w' ⟨rfl, rfl⟩) | (go_at_call 121; refine (isSquare_any _ _ (by omega) (by omega)).mono ?_; rintro e w' ⟨rfl, rfl⟩))
          go_ret
          exact ⟨rfl, ext1 _ _⟩
      · obtain ⟨q1, q2⟩ := inR_true.1 hq
        by_cases h0 : q = 0
        · subst h0
          simp only [Bool.not_true, decide_true, Bool.false_and, Bool.and_false]
          cases h2 : sqB d
          all_goals
            go_enter Tryz.func78, Tryz.ntmps78
            go_wp2_with (first | (go_at_call 117; refine (within_any _ _ _ _).mono ?_; rintro e w' ⟨rfl, rfl⟩) | (go_at_call 121; refine (isSquare_any _ _ (by omega) (by omega)).mono ?_; rintro e w' ⟨rfl, rfl⟩))
            go_ret
            exact ⟨rfl, ext1 _ _⟩
        · have e1 : (q == 0) = false := by simpa using h0
          have e2 : (q != 0) = true := by simpa using h0
          simp only [Bool.true_and, decide_eq_false h0, Bool.not_false]
          cases h2 : sqB d
          · have hr : -1000001000000 < (d - p * p).tmod q ∧ (d - p * p).tmod q < 1000001000000 := by
              have hlt := Int.natAbs_tmod (d - p * p) q
              have := Nat.mod_lt (d - p * p).natAbs (show 0 < q.natAbs by omega)
              omega
            go_enter Tryz.func78, Tryz.ntmps78
            go_wp2_with (first | (go_at_call 117; refine (within_any _ _ _ _).mono ?_; rintro e w' ⟨rfl, rfl⟩) | (go_at_call 121; refine (isSquare_any _ _ (by omega) (by omega)).mono ?_; rintro e w' ⟨rfl, rfl⟩))
            go_ret
            exact ⟨ret_bool (by rw [Bool.eq_iff_iff]; simp), ext1 _ _⟩
          · simp only [Bool.not_true, Bool.false_and]
            go_enter Tryz.func78, Tryz.ntmps78
            go_wp2_with (first | (go_at_call 117; refine (within_any _ _ _ _).mono ?_; rintro e w' ⟨rfl, rfl⟩) | (go_at_call 121; refine (isSquare_any _ _ (by omega) (by omega)).mono ?_; rintro e w' ⟨rfl, rfl⟩))
            go_ret
            exact ⟨rfl, ext1 _ _⟩
set_option maxHeartbeats 2000000 in
theorem l07Ok_any (p d q : Int) (w : World) :
    Calls Tryz.prog 88 #[surdV p d q] w fun e w' => e = .returned (.bool (surdB p d q)) ∧ Below w.heap.size w w' := by
  unfold surdV surdB
  cases h1 : inR d 2 1000000
  · simp only [Bool.false_and]
    go_enter Tryz.func88, Tryz.ntmps88
    go_wp2_with (go_at_call 126; refine (l00In_any _ _ _ _).mono ?_; rintro e w' ⟨rfl, rfl⟩)
    go_ret
    exact ⟨rfl, ext1 _ _⟩
  · obtain ⟨d1, d2⟩ := inR_true.1 h1
    cases hp : inR p (-1000000) 1000000
    · simp only [Bool.false_and, Bool.and_false]
      cases h2 : sqB d
      all_goals
        go_enter Tryz.func88, Tryz.ntmps88
        go_wp2_with (first | (go_at_call 126; refine (l00In_any _ _ _ _).mono ?_; rintro e w' ⟨rfl, rfl⟩) | (go_at_call 129; refine (l07Square_any _ _ (by omega) (by omega)).mono ?_; rintro e w' ⟨rfl, rfl⟩))
        go_ret
        exact ⟨rfl, ext1 _ _⟩
    · obtain ⟨m1, m2⟩ := sq_bd hp
      obtain ⟨p1, p2⟩ := inR_true.1 hp
      cases hq : inR q (-1000000) 1000000
      · simp only [Bool.false_and, Bool.and_false]
        cases h2 : sqB d
        all_goals
          go_enter Tryz.func88, Tryz.ntmps88
          go_wp2_with (first | (go_at_call 126; refine (l00In_any _ _ _ _).mono ?_; rintro e w' ⟨rfl, rfl⟩) | (go_at_call 129; refine (l07Square_any _ _ (by omega) (by omega)).mono ?_; rintro e w' ⟨rfl, rfl⟩))
          go_ret
          exact ⟨rfl, ext1 _ _⟩
      · obtain ⟨q1, q2⟩ := inR_true.1 hq
        by_cases h0 : q = 0
        · subst h0
          simp only [Bool.not_true, decide_true, Bool.false_and, Bool.and_false]
          cases h2 : sqB d
          all_goals
            go_enter Tryz.func88, Tryz.ntmps88
            go_wp2_with (first | (go_at_call 126; refine (l00In_any _ _ _ _).mono ?_; rintro e w' ⟨rfl, rfl⟩) | (go_at_call 129; refine (l07Square_any _ _ (by omega) (by omega)).mono ?_; rintro e w' ⟨rfl, rfl⟩))
            go_ret
            exact ⟨rfl, ext1 _ _⟩
        · have e1 : (q == 0) = false := by simpa using h0
          have e2 : (q != 0) = true := by simpa using h0
          simp only [Bool.true_and, decide_eq_false h0, Bool.not_false]
          cases h2 : sqB d
          · have hr : -1000001000000 < (d - p * p).tmod q ∧ (d - p * p).tmod q < 1000001000000 := by
              have hlt := Int.natAbs_tmod (d - p * p) q
              have := Nat.mod_lt (d - p * p).natAbs (show 0 < q.natAbs by omega)
              omega
            go_enter Tryz.func88, Tryz.ntmps88
            go_wp2_with (first | (go_at_call 126; refine (l00In_any _ _ _ _).mono ?_; rintro e w' ⟨rfl, rfl⟩) | (go_at_call 129; refine (l07Square_any _ _ (by omega) (by omega)).mono ?_; rintro e w' ⟨rfl, rfl⟩))
            go_ret
            exact ⟨ret_bool (by rw [Bool.eq_iff_iff]; simp), ext1 _ _⟩
          · simp only [Bool.not_true, Bool.false_and]
            go_enter Tryz.func88, Tryz.ntmps88
            go_wp2_with (first | (go_at_call 126; refine (l00In_any _ _ _ _).mono ?_; rintro e w' ⟨rfl, rfl⟩) | (go_at_call 129; refine (l07Square_any _ _ (by omega) (by omega)).mono ?_; rintro e w' ⟨rfl, rfl⟩))
            go_ret
            exact ⟨rfl, ext1 _ _⟩
end Go.Proofs.YtpnabggpdgjbmaaGreatDoor
