/- What the gears' statements draw from a code of bytes: the walks. No condition but those that each theorem names. -/
import Derived.Test.YtgnifhegkjmgaaaDrawFW
import Derived.Deep.RegionHeld3
import Derived.IntWalk
namespace Go.Proofs.Ytgnifhegkjmgaaa
open Go.RowKit Go.Sort

theorem S0.fin {g B N M : Nat} {w W : World} (t : S0 g B N w W) (hM : N ≤ M) (x y : Value) : Src g B M ((W.setCell ⟨w.heap.size, 0, none⟩ x).setCell ⟨w.heap.size, 1, none⟩ y) ∧ Keep g w ((W.setCell ⟨w.heap.size, 0, none⟩ x).setCell ⟨w.heap.size, 1, none⟩ y) := by
  obtain ⟨t1, t2, t3, t4⟩ := t
  exact ⟨((t1.setOther t4 _ _).setOther t4 _ _).more hM, (t2.setOther t4 (Nat.le_refl _) _ _).setOther t4 (Nat.le_refl _) _ _⟩
set_option maxHeartbeats 1000000 in
theorem l05Draw_any (g B N : Nat) (w : World) (h : Src g B N w) (hN : N ≤ 800000) :
    Calls Try.prog 151 #[.pointer (some ⟨g, 0, none⟩)] w (RetF g B (N + 16) w) := by
  have T := Lib.hid (S0.start h 25)
  clear h
  go_enter Try.func151, Try.ntmps151
  go_wp2_with fail
  refine (srcOne_any g B N 10 _ T.out.1 (by omega) (by omega)).mono ?_
  rintro e w1 ⟨b, rfl, S1, K1⟩
  have T := Lib.hid (T.out.keep S1 K1)
  clear S1 K1
  cases b
  · go_wp2_with fail
    refine (srcPick_any g B _ 300 _ T.out.1 (by omega) (by omega)).mono ?_
    rintro e w2 ⟨x, x1, x2, rfl, S2, K2⟩
    have T := Lib.hid (T.out.keep S2 K2)
    go_wp2_with fail
    refine (srcPick_any g B _ 300 _ T.out.1 (by omega) (by omega)).mono ?_
    rintro e w3 ⟨y, y1, y2, rfl, S3, K3⟩
    have T := Lib.hid (T.out.keep S3 K3)
    go_wp2_with fail
    refine (l02Make_some _ _ _ (by omega) (by omega) (by omega) (by omega)).mono ?_
    rintro e w4 ⟨u, v, rfl, hb4⟩
    have T := Lib.hid (T.out.next hb4)
    clear hb4 S2 K2 S3 K3
    obtain ⟨r0, r1, rf, rl⟩ := T.out.2.2.1
    have rf0 := rf 0
    have rf1 := rf 1
    clear rf
    obtain ⟨s0, s1⟩ := set_two r0 r1
    go_wp2
    refine bodyPost_ret ?_ rfl (S0.ret T.out (by omega) _ _ u v)
    simp [results, Try.results151, go_sem, s0, s1]
  · go_wp2_with fail
    refine (l02Bent_any g B _ _ T.out.1 (by omega)).mono ?_
    rintro e w2 ⟨a, b, rfl, S2, K2⟩
    have T := Lib.hid (T.out.keep S2 K2)
    clear S2 K2
    obtain ⟨r0, r1, rf, rl⟩ := T.out.2.2.1
    have rf0 := rf 0
    have rf1 := rf 1
    clear rf
    obtain ⟨s0, s1⟩ := set_two r0 r1
    go_wp2
    refine bodyPost_ret ?_ rfl (S0.ret T.out (by omega) _ _ a b)
    simp [results, Try.results151, go_sem, s0, s1]
/-- What a draw of a fraction and two numbers returns. -/
def RetAsk (g B N : Nat) (w : World) (e : Ending) (w' : World) : Prop := ∃ a b lo hi : Int, e = .returned (.tuple #[fracV a b, .int .i64 lo, .int .i64 hi]) ∧ Src g B N w' ∧ Keep g w w'
set_option maxHeartbeats 4000000 in
theorem l25Ask_any (g B N : Nat) (w : World) (h : Src g B N w) (hN : N ≤ 700000) :
    Calls Try.prog 74 #[.pointer (some ⟨g, 0, none⟩)] w (RetAsk g B (N + 40) w) := by
  have T := Lib.hid (S0.start h 25)
  clear h
  go_enter Try.func74, Try.ntmps74
  go_wp2_with fail
  refine (l05Draw_any g B N _ T.out.1 (by omega)).mono ?_
  rintro e w1 ⟨a, b, rfl, S1, K1⟩
  have T := Lib.hid (SF.start (T.out.keep S1 K1) a b 25)
  clear S1 K1
  go_wp2_with fail
  refine (srcPick_any g B _ 20 _ T.out.1.1 (by omega) (by omega)).mono ?_
  rintro e w2 ⟨x, x1, x2, rfl, S2, K2⟩
  have T := Lib.hid (T.out.keep S2 K2)
  clear S2 K2
  go_wp2_with fail
  refine (srcPick_any g B _ 80 _ T.out.1.1 (by omega) (by omega)).mono ?_
  rintro e w3 ⟨y, y1, y2, rfl, S3, K3⟩
  have T := Lib.hid (T.out.keep S3 K3)
  clear S3 K3
  go_wp2_with fail
  refine (srcPick_any g B _ 16 _ T.out.1.1 (by omega) (by omega)).mono ?_
  rintro e w4 ⟨k, k1, k2, rfl, S4, K4⟩
  have T := Lib.hid (T.out.keep S4 K4)
  clear S4 K4
  by_cases e0 : k = 0
  · go_wp2_with fail
    refine (srcAmong_any g B _ _ _ [-1, 0, 1, 1000, 1001] _ (T.out.alloc _).1.1 (by omega) (rd_lit _ _ _ _ rfl) (fun b o e => by injection e with e; injection e; have := T.out.1.1.lt; omega) (by simp) (by simp)).mono ?_
    rintro e w5 ⟨z, hz, rfl, S5, K5⟩
    have T := Lib.hid ((T.out.alloc _).keep S5 K5)
    clear S5 K5 hz
    have T0 := Lib.hid T.out.1
    obtain ⟨d0, d1, df, dl⟩ := T.out.2.1
    obtain ⟨r0, r1, rf, rl⟩ := T0.out.2.2.1
    have rf0 := rf 0
    have rf1 := rf 1
    clear rf df
    obtain ⟨s0, s1⟩ := set_two r0 r1
    go_wp2
    first
      | (refine bodyPost_ret (v := .tuple #[fracV a b, .int .i64 z, .int .i64 (1 + x + y)]) ?_ rfl ⟨_, _, _, _, rfl, (S0.fin (M := N + 40) T0.out (by omega) _ _).1, (S0.fin T0.out (Nat.le_refl _) _ _).2⟩; simp [results, Try.results74, go_sem, s0, s1]; done)
      | (refine bodyPost_ret (v := .tuple #[fracV a b, .int .i64 (1 + x), .int .i64 z]) ?_ rfl ⟨_, _, _, _, rfl, (S0.fin (M := N + 40) T0.out (by omega) _ _).1, (S0.fin T0.out (Nat.le_refl _) _ _).2⟩; simp [results, Try.results74, go_sem, s0, s1]; done)
      | (refine bodyPost_ret (v := .tuple #[fracV 1 z, .int .i64 (1 + x), .int .i64 (1 + x + y)]) ?_ rfl ⟨_, _, _, _, rfl, (S0.fin (M := N + 40) T0.out (by omega) _ _).1, (S0.fin T0.out (Nat.le_refl _) _ _).2⟩; simp [results, Try.results74, go_sem, s0, s1]; done)
      | (refine bodyPost_ret (v := .tuple #[fracV a b, .int .i64 (1 + x), .int .i64 (1 + x + y)]) ?_ rfl ⟨_, _, _, _, rfl, (S0.fin (M := N + 40) T0.out (by omega) _ _).1, (S0.fin T0.out (Nat.le_refl _) _ _).2⟩; simp [results, Try.results74, go_sem, s0, s1]; done)
  · by_cases e1 : k = 1
    · go_wp2_with fail
      refine (srcAmong_any g B _ _ _ [0, 120, 121, 1000, 1001] _ (T.out.alloc _).1.1 (by omega) (rd_lit _ _ _ _ rfl) (fun b o e => by injection e with e; injection e; have := T.out.1.1.lt; omega) (by simp) (by simp)).mono ?_
      rintro e w5 ⟨z, hz, rfl, S5, K5⟩
      have T := Lib.hid ((T.out.alloc _).keep S5 K5)
      clear S5 K5 hz
      have T0 := Lib.hid T.out.1
      obtain ⟨d0, d1, df, dl⟩ := T.out.2.1
      obtain ⟨r0, r1, rf, rl⟩ := T0.out.2.2.1
      have rf0 := rf 0
      have rf1 := rf 1
      clear rf df
      obtain ⟨s0, s1⟩ := set_two r0 r1
      go_wp2
      first
        | (refine bodyPost_ret (v := .tuple #[fracV a b, .int .i64 z, .int .i64 (1 + x + y)]) ?_ rfl ⟨_, _, _, _, rfl, (S0.fin (M := N + 40) T0.out (by omega) _ _).1, (S0.fin T0.out (Nat.le_refl _) _ _).2⟩; simp [results, Try.results74, go_sem, s0, s1]; done)
        | (refine bodyPost_ret (v := .tuple #[fracV a b, .int .i64 (1 + x), .int .i64 z]) ?_ rfl ⟨_, _, _, _, rfl, (S0.fin (M := N + 40) T0.out (by omega) _ _).1, (S0.fin T0.out (Nat.le_refl _) _ _).2⟩; simp [results, Try.results74, go_sem, s0, s1]; done)
        | (refine bodyPost_ret (v := .tuple #[fracV 1 z, .int .i64 (1 + x), .int .i64 (1 + x + y)]) ?_ rfl ⟨_, _, _, _, rfl, (S0.fin (M := N + 40) T0.out (by omega) _ _).1, (S0.fin T0.out (Nat.le_refl _) _ _).2⟩; simp [results, Try.results74, go_sem, s0, s1]; done)
        | (refine bodyPost_ret (v := .tuple #[fracV a b, .int .i64 (1 + x), .int .i64 (1 + x + y)]) ?_ rfl ⟨_, _, _, _, rfl, (S0.fin (M := N + 40) T0.out (by omega) _ _).1, (S0.fin T0.out (Nat.le_refl _) _ _).2⟩; simp [results, Try.results74, go_sem, s0, s1]; done)
    · by_cases e2 : k = 2
      · go_wp2_with fail
        refine (srcAmong_any g B _ _ _ [1000000, 1000001] _ (T.out.alloc _).1.1 (by omega) (rd_lit _ _ _ _ rfl) (fun b o e => by injection e with e; injection e; have := T.out.1.1.lt; omega) (by simp) (by simp)).mono ?_
        rintro e w5 ⟨z, hz, rfl, S5, K5⟩
        have T := Lib.hid ((T.out.alloc _).keep S5 K5)
        clear S5 K5 hz
        obtain ⟨c0, c1, cf, cl⟩ := T.out.2.1
        have cf0 := cf 0
        have cf1 := cf 1
        clear cf
        have hz := Nat.lt_of_lt_of_le T.out.1.2.2.2 T.out.1.2.1.2.1
        have T := Lib.hid ((T.out.set0 1).set1 z)
        have T0 := Lib.hid T.out.1
        obtain ⟨d0, d1, df, dl⟩ := T.out.2.1
        obtain ⟨r0, r1, rf, rl⟩ := T0.out.2.2.1
        have rf0 := rf 0
        have rf1 := rf 1
        clear rf df
        obtain ⟨s0, s1⟩ := set_two r0 r1
        go_wp2
        first
          | (refine bodyPost_ret (v := .tuple #[fracV a b, .int .i64 z, .int .i64 (1 + x + y)]) ?_ rfl ⟨_, _, _, _, rfl, (S0.fin (M := N + 40) T0.out (by omega) _ _).1, (S0.fin T0.out (Nat.le_refl _) _ _).2⟩; simp [results, Try.results74, go_sem, s0, s1]; done)
          | (refine bodyPost_ret (v := .tuple #[fracV a b, .int .i64 (1 + x), .int .i64 z]) ?_ rfl ⟨_, _, _, _, rfl, (S0.fin (M := N + 40) T0.out (by omega) _ _).1, (S0.fin T0.out (Nat.le_refl _) _ _).2⟩; simp [results, Try.results74, go_sem, s0, s1]; done)
          | (refine bodyPost_ret (v := .tuple #[fracV 1 z, .int .i64 (1 + x), .int .i64 (1 + x + y)]) ?_ rfl ⟨_, _, _, _, rfl, (S0.fin (M := N + 40) T0.out (by omega) _ _).1, (S0.fin T0.out (Nat.le_refl _) _ _).2⟩; simp [results, Try.results74, go_sem, s0, s1]; done)
          | (refine bodyPost_ret (v := .tuple #[fracV a b, .int .i64 (1 + x), .int .i64 (1 + x + y)]) ?_ rfl ⟨_, _, _, _, rfl, (S0.fin (M := N + 40) T0.out (by omega) _ _).1, (S0.fin T0.out (Nat.le_refl _) _ _).2⟩; simp [results, Try.results74, go_sem, s0, s1]; done)
      · skip
        have T0 := Lib.hid T.out.1
        obtain ⟨d0, d1, df, dl⟩ := T.out.2.1
        obtain ⟨r0, r1, rf, rl⟩ := T0.out.2.2.1
        have rf0 := rf 0
        have rf1 := rf 1
        clear rf df
        obtain ⟨s0, s1⟩ := set_two r0 r1
        go_wp2
        first
          | (refine bodyPost_ret (v := .tuple #[fracV a b, .int .i64 z, .int .i64 (1 + x + y)]) ?_ rfl ⟨_, _, _, _, rfl, (S0.fin (M := N + 40) T0.out (by omega) _ _).1, (S0.fin T0.out (Nat.le_refl _) _ _).2⟩; simp [results, Try.results74, go_sem, s0, s1]; done)
          | (refine bodyPost_ret (v := .tuple #[fracV a b, .int .i64 (1 + x), .int .i64 z]) ?_ rfl ⟨_, _, _, _, rfl, (S0.fin (M := N + 40) T0.out (by omega) _ _).1, (S0.fin T0.out (Nat.le_refl _) _ _).2⟩; simp [results, Try.results74, go_sem, s0, s1]; done)
          | (refine bodyPost_ret (v := .tuple #[fracV 1 z, .int .i64 (1 + x), .int .i64 (1 + x + y)]) ?_ rfl ⟨_, _, _, _, rfl, (S0.fin (M := N + 40) T0.out (by omega) _ _).1, (S0.fin T0.out (Nat.le_refl _) _ _).2⟩; simp [results, Try.results74, go_sem, s0, s1]; done)
          | (refine bodyPost_ret (v := .tuple #[fracV a b, .int .i64 (1 + x), .int .i64 (1 + x + y)]) ?_ rfl ⟨_, _, _, _, rfl, (S0.fin (M := N + 40) T0.out (by omega) _ _).1, (S0.fin T0.out (Nat.le_refl _) _ _).2⟩; simp [results, Try.results74, go_sem, s0, s1]; done)
/-- The state of a statement's draw: the source behind the result. -/
def SG (N : Nat) (w W : World) : Prop := Src (w.heap.size + 1) (w.heap.size + 1) N W ∧ B2 w.heap.size 0 0 W ∧ Below w.heap.size w W
section
variable {N M : Nat} {w W W' : World} {h : Nat} {a b : Int}
theorem SG.keep (t : SG N w W) (hs : Src (w.heap.size + 1) (w.heap.size + 1) M W') (k : Keep (w.heap.size + 1) W W') : SG M w W' := ⟨hs, t.2.1.keep k (by omega), t.2.2.trans (k.1.mono (by omega))⟩
theorem SG.next (t : SG N w W) (hb : Below W.heap.size W W') : SG N w W' := t.keep (t.1.next hb) (Keep.of hb t.1.lt)
theorem SG.start {T : TypeId} (hs : Src (w.alloc (.cells #[.int .i64 0, .int .i64 0] T)).heap.size (w.alloc (.cells #[.int .i64 0, .int .i64 0] T)).heap.size N W) (hb : Below (w.alloc (.cells #[.int .i64 0, .int .i64 0] T)).heap.size (w.alloc (.cells #[.int .i64 0, .int .i64 0] T)) W) : SG N w W :=
  ⟨by simpa using hs, (B2.new _ _ _ T).next hb, ext_trans (ext1 _ _) hb⟩
theorem SG.end_ (t : SG N w W) (x y : Value) : Below w.heap.size w ((W.setCell ⟨w.heap.size, 0, none⟩ x).setCell ⟨w.heap.size, 1, none⟩ y) := ext_set (ext_set t.2.2 (Nat.le_refl _) _) (Nat.le_refl _) _
def SH (N : Nat) (w : World) (h : Nat) (a b : Int) (W : World) : Prop := SG N w W ∧ B2 h a b W ∧ w.heap.size + 1 < h
theorem SH.start (t : SG N w W) (a b : Int) (T : TypeId) : SH N w W.heap.size a b (W.alloc (.cells #[.int .i64 a, .int .i64 b] T)) := ⟨t.next (ext1 _ _), B2.new _ _ _ _, t.1.lt⟩
theorem SH.keep (t : SH N w h a b W) (hs : Src (w.heap.size + 1) (w.heap.size + 1) M W') (k : Keep (w.heap.size + 1) W W') : SH M w h a b W' := ⟨t.1.keep hs k, t.2.1.keep k (by have := t.2.2; omega), t.2.2⟩
theorem SH.next (t : SH N w h a b W) (hb : Below W.heap.size W W') : SH N w h a b W' := t.keep (t.1.1.next hb) (Keep.of hb t.1.1.lt)
theorem SH.put {a' b' : Int} {j : Nat} {u : Value} (t : SH N w h a b W) (r : B2 h a' b' (W.setCell ⟨h, j, none⟩ u)) : SH N w h a' b' (W.setCell ⟨h, j, none⟩ u) :=
  ⟨⟨t.1.1.setOther t.2.2 j u, t.1.2.1.far (by have := t.2.2; omega) u, ext_set t.1.2.2 (by have := t.2.2; show w.heap.size ≤ h; omega) u⟩, r, t.2.2⟩
theorem SH.set0 (t : SH N w h a b W) (x : Int) : SH N w h x b (W.setCell ⟨h, 0, none⟩ (.int .i64 x)) := t.put (t.2.1.set0 x)
theorem SH.set1 (t : SH N w h a b W) (x : Int) : SH N w h a x (W.setCell ⟨h, 1, none⟩ (.int .i64 x)) := t.put (t.2.1.set1 x)
end
/-- What the statement's draw returns. -/
def RetGear (w : World) (e : Ending) (w' : World) : Prop := ∃ a b lo hi : Int, e = .returned (.tuple #[fracV a b, .int .i64 lo, .int .i64 hi]) ∧ Below w.heap.size w w'
theorem SH.ret {N : Nat} {w W : World} {h : Nat} {a b : Int} (t : SH N w h a b W) (lo hi : Int) (x y : Value) : RetGear w (.returned (.tuple #[fracV a b, .int .i64 lo, .int .i64 hi])) ((W.setCell ⟨w.heap.size, 0, none⟩ x).setCell ⟨w.heap.size, 1, none⟩ y) := ⟨a, b, lo, hi, rfl, t.1.end_ x y⟩
set_option maxHeartbeats 1000000 in
theorem drawGearFor_any (A : Option Addr) (n c : Nat) (w : World) (h : Bytes w A n) :
    Calls Try.prog 14 #[.slice A n c] w (RetGear w) := by
  have H := Lib.hid h
  clear h
  go_enter Try.func14, Try.ntmps14
  go_wp2_with fail
  refine (l00From_bytes A n c _ (H.out.next (ext1 _ _))).mono ?_
  rintro e w1 ⟨rfl, S1, hb1⟩
  have T := Lib.hid (SG.start S1 hb1)
  simp only [World.size_alloc]
  clear S1 hb1
  go_wp2_with fail
  refine (l25Ask_any _ _ 0 _ T.out.1 (by omega)).mono ?_
  rintro e w2 ⟨a, b, lo, hi, rfl, S2, K2⟩
  have T := Lib.hid (T.out.keep S2 K2)
  clear S2 K2
  obtain ⟨r0, r1, rf, rl⟩ := T.out.2.1
  have rf0 := rf 0
  have rf1 := rf 1
  clear rf
  obtain ⟨s0, s1⟩ := set_two r0 r1
  go_wp2
  refine bodyPost_ret ?_ rfl ⟨a, b, lo, hi, rfl, T.out.end_ _ _⟩
  simp [results, Try.results14, go_sem, s0, s1]
set_option maxHeartbeats 1000000 in
theorem drawTwoGears_any (A : Option Addr) (n c : Nat) (w : World) (h : Bytes w A n) :
    Calls Try.prog 17 #[.slice A n c] w (RetGear w) := by
  have H := Lib.hid h
  clear h
  go_enter Try.func17, Try.ntmps17
  go_wp2_with fail
  refine (l00From_bytes A n c _ (H.out.next (ext1 _ _))).mono ?_
  rintro e w1 ⟨rfl, S1, hb1⟩
  have T := Lib.hid (SG.start S1 hb1)
  simp only [World.size_alloc]
  clear S1 hb1
  go_wp2_with fail
  refine (l25Ask_any _ _ 0 _ T.out.1 (by omega)).mono ?_
  rintro e w2 ⟨a, b, lo, hi, rfl, S2, K2⟩
  have T := Lib.hid (SH.start (T.out.keep S2 K2) a b 25)
  clear S2 K2
  go_wp2_with fail
  refine (srcOne_any _ _ _ 2 _ T.out.1.1 (by omega) (by omega)).mono ?_
  rintro e w3 ⟨bb, rfl, S3, K3⟩
  have T := Lib.hid (T.out.keep S3 K3)
  clear S3 K3
  cases bb
  · skip
    obtain ⟨d0, d1, df, dl⟩ := T.out.2.1
    obtain ⟨r0, r1, rf, rl⟩ := T.out.1.2.1
    have rf0 := rf 0
    have rf1 := rf 1
    clear rf df
    obtain ⟨s0, s1⟩ := set_two r0 r1
    go_wp2
    refine bodyPost_ret ?_ rfl (SH.ret T.out lo hi _ _)
    simp [results, Try.results17, go_sem, s0, s1]
  · go_wp2_with fail
    refine (srcPick_any _ _ _ 12 _ T.out.1.1 (by omega) (by omega)).mono ?_
    rintro e w4 ⟨x, x1, x2, rfl, S4, K4⟩
    have T := Lib.hid (T.out.keep S4 K4)
    clear S4 K4
    go_wp2_with fail
    refine (srcPick_any _ _ _ 12 _ T.out.1.1 (by omega) (by omega)).mono ?_
    rintro e w5 ⟨y, y1, y2, rfl, S5, K5⟩
    have T := Lib.hid (T.out.keep S5 K5)
    clear S5 K5
    obtain ⟨m1, m2⟩ := mul_rngD (x := 1 + x) (y := 1 + y) (M := 12) (K := 12) (by omega) (by omega) (by omega) (by omega)
    go_wp2_with fail
    refine (srcPick_any _ _ _ 60 _ T.out.1.1 (by omega) (by omega)).mono ?_
    rintro e w6 ⟨z, z1, z2, rfl, S6, K6⟩
    have T := Lib.hid (T.out.keep S6 K6)
    clear S6 K6
    go_wp2_with fail
    refine (l02Make_some _ _ _ (by omega) (by omega) (by omega) (by omega)).mono ?_
    rintro e w7 ⟨u, v, rfl, hb7⟩
    have T := Lib.hid (T.out.next hb7)
    clear hb7
    obtain ⟨c0, c1, cf, cl⟩ := T.out.2.1
    have cf0 := cf 0
    have cf1 := cf 1
    clear cf
    have hzr := T.out.1.2.1.2.2.2
    have T := Lib.hid ((T.out.set0 u).set1 v)
    obtain ⟨d0, d1, df, dl⟩ := T.out.2.1
    obtain ⟨r0, r1, rf, rl⟩ := T.out.1.2.1
    have rf0 := rf 0
    have rf1 := rf 1
    clear rf df
    obtain ⟨s0, s1⟩ := set_two r0 r1
    go_wp2
    refine bodyPost_ret ?_ rfl (SH.ret T.out lo hi _ _)
    simp [results, Try.results17, go_sem, s0, s1]
/-- A fraction's cells in block h. -/
def RF (h : Nat) (a b : Int) (W : World) : Prop := W.cell? ⟨h, 0, none⟩ = some (.int .i64 a) ∧ W.cell? ⟨h, 1, none⟩ = some (.int .i64 b)
theorem RF.set {h i j : Nat} {u : Value} {a b : Int} {W : World} (t : RF h a b W) (hi : h ≠ i) : RF h a b (W.setCell ⟨i, j, none⟩ u) := by
  have o : ∀ m, (W.setCell ⟨i, j, none⟩ u).cell? ⟨h, m, none⟩ = W.cell? ⟨h, m, none⟩ := fun m => World.cell?_setCell_other _ _ _ _ (by intro e; injection e; omega)
  exact ⟨(o 0).trans t.1, (o 1).trans t.2⟩
set_option maxHeartbeats 1000000 in
theorem drawGearError_any (A : Option Addr) (n c : Nat) (w : World) (h : Bytes w A n) :
    Calls Try.prog 20 #[.slice A n c] w (RetGear w) := by
  have H := Lib.hid h
  clear h
  go_enter Try.func20, Try.ntmps20
  go_wp2_with fail
  refine (l00From_bytes A n c _ (H.out.next (ext1 _ _))).mono ?_
  rintro e w1 ⟨rfl, S1, hb1⟩
  have T := Lib.hid (SG.start S1 hb1)
  simp only [World.size_alloc]
  clear S1 hb1
  go_wp2_with fail
  refine (l02Bent_any _ _ 0 _ T.out.1 (by omega)).mono ?_
  rintro e w2 ⟨a, b, rfl, S2, K2⟩
  have T := Lib.hid (SH.start (T.out.keep S2 K2) a b 25)
  clear S2 K2
  go_wp2_with fail
  refine (srcPick_any _ _ _ 100 _ T.out.1.1 (by omega) (by omega)).mono ?_
  rintro e w3 ⟨x, x1, x2, rfl, S3, K3⟩
  have T := Lib.hid (T.out.keep S3 K3)
  clear S3 K3
  go_wp2_with fail
  refine (srcOne_any _ _ _ 10 _ T.out.1.1 (by omega) (by omega)).mono ?_
  rintro e w4 ⟨bb, rfl, S4, K4⟩
  have T := Lib.hid (T.out.keep S4 K4)
  clear S4 K4
  cases bb
  · skip
    have HS := Lib.hid T.out.1.1
    have X5 : RF w2.heap.size a b w4.drew := ⟨T.out.2.1.1, T.out.2.1.2.1⟩
    have h2z : w.heap.size + 1 < w2.heap.size := T.out.2.2
    have HTK : Hid (∀ (M : Nat) (W : World), Src (w.heap.size + 1) (w.heap.size + 1) M W → Keep (w.heap.size + 1) w4.drew W → SH M w w2.heap.size a b W) := fun M W hs k => (T.out.next (ext_drew (Below.refl _ _))).keep hs k
    have HKK : Hid (∀ W : World, Keep (w.heap.size + 1) w4.drew W → RF w2.heap.size a b W) := fun W k => ⟨((T.out.next (ext_drew (Below.refl _ _))).2.1.keep k (by omega)).1, ((T.out.next (ext_drew (Below.refl _ _))).2.1.keep k (by omega)).2.1⟩
    clear T
    go_wp2_with fail
    go_region_held3 (fun w' => w'.cell? ⟨w2.heap.size, 0, none⟩ = some (.int .i64 a) ∧ w'.cell? ⟨w2.heap.size, 1, none⟩ = some (.int .i64 b))
      (first | exact X5 | exact HKK.out _ (by assumption) | exact RF.set (RF.set (HKK.out _ (by assumption)) (by omega)) (by omega))
      (first | (go_at_call 85; (with_reducible refine (srcPick_any (w.heap.size + 1) (w.heap.size + 1) _ 100 _ (HS.out.next (ext_drew (Below.refl _ _))) (by omega) (by omega)).mono ?_); rintro e w6 ⟨q, q1, q2, rfl, S6, K6⟩; obtain ⟨r0, r1, rf, rl⟩ := (HTK.out _ _ S6 K6).1.2.1; have rf0 := rf 0; have rf1 := rf 1; clear rf))
    obtain ⟨s0, s1⟩ := set_two r0 r1
    have HE6 := Lib.hid (SH.ret (HTK.out _ _ S6 K6))
    go_wp2
    refine bodyPost_ret ?_ rfl (HE6.out (1 + x) (1 + q) _ _)
    have u1 : IntKind.i64.wrap (1 + q) = 1 + q := IntWalk.i64_in _ (by omega)
    simp [results, Try.results20, go_sem, s0, s1, u1]
  · go_wp2_with fail
    refine (srcAmong_any _ _ _ _ _ [-1, 0, 1000, 1001] _ (T.out.next (ext1 _ _)).1.1 (by omega) (rd_lit _ _ _ _ rfl) (fun b o e => by injection e with e; injection e; have := T.out.1.1.lt; omega) (by simp) (by simp)).mono ?_
    rintro e w5 ⟨z, hz, rfl, S5, K5⟩
    have T := Lib.hid ((T.out.next (ext1 _ _)).keep S5 K5)
    clear S5 K5 hz
    have HS := Lib.hid T.out.1.1
    have X5 : RF w2.heap.size a b w5.drew := ⟨T.out.2.1.1, T.out.2.1.2.1⟩
    have h2z : w.heap.size + 1 < w2.heap.size := T.out.2.2
    have HTK : Hid (∀ (M : Nat) (W : World), Src (w.heap.size + 1) (w.heap.size + 1) M W → Keep (w.heap.size + 1) w5.drew W → SH M w w2.heap.size a b W) := fun M W hs k => (T.out.next (ext_drew (Below.refl _ _))).keep hs k
    have HKK : Hid (∀ W : World, Keep (w.heap.size + 1) w5.drew W → RF w2.heap.size a b W) := fun W k => ⟨((T.out.next (ext_drew (Below.refl _ _))).2.1.keep k (by omega)).1, ((T.out.next (ext_drew (Below.refl _ _))).2.1.keep k (by omega)).2.1⟩
    clear T
    go_wp2_with fail
    go_region_held3 (fun w' => w'.cell? ⟨w2.heap.size, 0, none⟩ = some (.int .i64 a) ∧ w'.cell? ⟨w2.heap.size, 1, none⟩ = some (.int .i64 b))
      (first | exact X5 | exact HKK.out _ (by assumption) | exact RF.set (RF.set (HKK.out _ (by assumption)) (by omega)) (by omega))
      (first | (go_at_call 85; (with_reducible refine (srcPick_any (w.heap.size + 1) (w.heap.size + 1) _ 100 _ (HS.out.next (ext_drew (Below.refl _ _))) (by omega) (by omega)).mono ?_); rintro e w6 ⟨q, q1, q2, rfl, S6, K6⟩; obtain ⟨r0, r1, rf, rl⟩ := (HTK.out _ _ S6 K6).1.2.1; have rf0 := rf 0; have rf1 := rf 1; clear rf))
    obtain ⟨s0, s1⟩ := set_two r0 r1
    have HE6 := Lib.hid (SH.ret (HTK.out _ _ S6 K6))
    go_wp2
    refine bodyPost_ret ?_ rfl (HE6.out z (1 + q) _ _)
    have u1 : IntKind.i64.wrap (1 + q) = 1 + q := IntWalk.i64_in _ (by omega)
    simp [results, Try.results20, go_sem, s0, s1, u1]
end Go.Proofs.Ytgnifhegkjmgaaa
