/- The draws of fractions: the walks. No condition but those that each theorem names. -/
import Derived.Test.YtdjnblkgeaphmaaCalDrawsW
import Derived.Test.YtdjnblkgeaphmaaSideW
namespace Go.Proofs.Ytdjnblkgeaphmaa
open Go.RowKit Go.Sort

theorem B2.keep {g h : Nat} {x y : Int} {W W' : World} (hb : B2 h x y W) (k : Keep g W W') (hg : h ≠ g) : B2 h x y W' :=
  ⟨(k.cell hg hb.2.2.2).trans hb.1, (k.cell hg hb.2.2.2).trans hb.2.1, fun j => (k.frozen hg hb.2.2.2).trans (hb.2.2.1 j), Nat.lt_of_lt_of_le hb.2.2.2 k.2.1⟩
theorem B2.set0 {g : Nat} {x y : Int} {W : World} (h : B2 g x y W) (a : Int) : B2 g a y (W.setCell ⟨g, 0, none⟩ (.int .i64 a)) := by
  obtain ⟨h0, h1, hf, hl⟩ := h
  exact ⟨World.cell?_setCell_same _ _ _ h0, (World.cell?_setCell_other _ ⟨g, 0, none⟩ ⟨g, 1, none⟩ _ (by simp)).trans h1, fun m => (World.frozen?_setCell _ _ _ _).trans (hf m), by simpa using hl⟩
theorem B2.set1 {g : Nat} {x y : Int} {W : World} (h : B2 g x y W) (a : Int) : B2 g x a (W.setCell ⟨g, 1, none⟩ (.int .i64 a)) := by
  obtain ⟨h0, h1, hf, hl⟩ := h
  exact ⟨(World.cell?_setCell_other _ ⟨g, 1, none⟩ ⟨g, 0, none⟩ _ (by simp)).trans h0, World.cell?_setCell_same _ _ _ h1, fun m => (World.frozen?_setCell _ _ _ _).trans (hf m), by simpa using hl⟩
/-- What a draw of a fraction returns. -/
def RetF (g B N : Nat) (w : World) (e : Ending) (w' : World) : Prop := ∃ a b : Int, e = .returned (fracV a b) ∧ Src g B N w' ∧ Keep g w w'
/-- The state of a draw: the source in g, the result in w's first new block. -/
def S0 (g B N : Nat) (w W : World) : Prop := Src g B N W ∧ Keep g w W ∧ B2 w.heap.size 0 0 W ∧ g < w.heap.size
section
variable {g B N : Nat} {w : World} {h : Nat} {a b : Int} {W : World}
theorem Src.lt {g B N : Nat} {W : World} (h : Src g B N W) : g < W.heap.size := by
  obtain ⟨A, n, c, bs, k, sd, h0, h1, h2, h3, h4, h5, h6, h7, h8, h9, h10, h11⟩ := h; exact h10
theorem S0.start (hs : Src g B N w) (T : TypeId) : S0 g B N w (w.alloc (.cells #[.int .i64 0, .int .i64 0] T)) :=
  ⟨hs.next (ext1 _ _), Keep.of (ext1 _ _) hs.lt, B2.new _ _ _ _, hs.lt⟩
theorem S0.keep {M : Nat} {W' : World} (t : S0 g B N w W) (hs : Src g B M W') (k : Keep g W W') : S0 g B M w W' := by
  obtain ⟨t1, t2, t3, t4⟩ := t
  exact ⟨hs, t2.trans k, t3.keep k (by omega), t4⟩
theorem S0.more {M : Nat} (t : S0 g B N w W) (h : N ≤ M) : S0 g B M w W := ⟨t.1.more h, t.2⟩
theorem S0.next {W' : World} (t : S0 g B N w W) (hb : Below W.heap.size W W') : S0 g B N w W' := t.keep (t.1.next hb) (Keep.of hb (Nat.lt_of_lt_of_le t.2.2.2 t.2.1.2.1))
theorem S0.alloc (t : S0 g B N w W) (o : Obj) : S0 g B N w (W.alloc o) := t.next (ext1 _ _)
theorem S0.drew (t : S0 g B N w W) : S0 g B N w W.drew := t.next (ext_drew (Below.refl _ _))
theorem S0.ret {M : Nat} (t : S0 g B N w W) (hM : N ≤ M) (x y : Value) (a b : Int) : RetF g B M w (.returned (fracV a b)) ((W.setCell ⟨w.heap.size, 0, none⟩ x).setCell ⟨w.heap.size, 1, none⟩ y) := by
  obtain ⟨t1, t2, t3, t4⟩ := t
  exact ⟨a, b, rfl, ((t1.setOther t4 _ _).setOther t4 _ _).more hM, (t2.setOther t4 (Nat.le_refl _) _ _).setOther t4 (Nat.le_refl _) _ _⟩
/-- .. and a fraction in block h. -/
def SF (g B N : Nat) (w : World) (h : Nat) (a b : Int) (W : World) : Prop := S0 g B N w W ∧ B2 h a b W ∧ w.heap.size < h
theorem SF.start (t : S0 g B N w W) (a b : Int) (T : TypeId) : SF g B N w W.heap.size a b (W.alloc (.cells #[.int .i64 a, .int .i64 b] T)) :=
  ⟨t.alloc _, B2.new _ _ _ _, t.2.2.1.2.2.2⟩
theorem SF.keep {M : Nat} {W' : World} (t : SF g B N w h a b W) (hs : Src g B M W') (k : Keep g W W') : SF g B M w h a b W' :=
  ⟨t.1.keep hs k, t.2.1.keep k (by have := t.1.2.2.2; have := t.2.2; omega), t.2.2⟩
theorem SF.next {W' : World} (t : SF g B N w h a b W) (hb : Below W.heap.size W W') : SF g B N w h a b W' := t.keep (t.1.1.next hb) (Keep.of hb (Nat.lt_of_lt_of_le t.1.2.2.2 t.1.2.1.2.1))
theorem SF.alloc (t : SF g B N w h a b W) (o : Obj) : SF g B N w h a b (W.alloc o) := t.next (ext1 _ _)
theorem SF.drew (t : SF g B N w h a b W) : SF g B N w h a b W.drew := t.next (ext_drew (Below.refl _ _))
theorem SF.put {a' b' : Int} {j : Nat} {u : Value} (t : SF g B N w h a b W) (r : B2 h a' b' (W.setCell ⟨h, j, none⟩ u)) : SF g B N w h a' b' (W.setCell ⟨h, j, none⟩ u) := by
  obtain ⟨⟨t1, t2, t3, t4⟩, t5, t6⟩ := t
  exact ⟨⟨t1.setOther (by omega) j u, t2.setOther t4 (by omega) j u, t3.far (by omega) u, t4⟩, r, t6⟩
theorem SF.set0 (t : SF g B N w h a b W) (x : Int) : SF g B N w h x b (W.setCell ⟨h, 0, none⟩ (.int .i64 x)) := t.put (t.2.1.set0 x)
theorem SF.set1 (t : SF g B N w h a b W) (x : Int) : SF g B N w h a x (W.setCell ⟨h, 1, none⟩ (.int .i64 x)) := t.put (t.2.1.set1 x)
end
theorem SF.ret {g B N M : Nat} {w : World} {h : Nat} {a b : Int} {W : World} (t : SF g B N w h a b W) (hM : N ≤ M) (x y : Value) : RetF g B M w (.returned (fracV a b)) ((W.setCell ⟨w.heap.size, 0, none⟩ x).setCell ⟨w.heap.size, 1, none⟩ y) := S0.ret t.1 hM x y a b
theorem l02Make_some (n d : Int) (w : World) (n1 : -9223372036854775807 ≤ n) (n2 : n ≤ 9223372036854775807) (d1 : 1 ≤ d) (d2 : d ≤ 9223372036854775807) :
    Calls Try.prog 118 #[.int .i64 n, .int .i64 d] w fun e w' => ∃ u v, e = .returned (fracV u v) ∧ Below w.heap.size w w' :=
  (l02Make_any n d w n1 n2 d1 d2).mono fun _ _ h => ⟨_, _, h⟩
set_option maxHeartbeats 1000000 in
theorem l02Draw_any (g B N : Nat) (w : World) (h : Src g B N w) (hN : N ≤ 900000) :
    Calls Try.prog 186 #[.pointer (some ⟨g, 0, none⟩), .int .i64 300] w (RetF g B (N + 8) w) := by
  have T := Lib.hid (S0.start h 25)
  clear h
  go_enter Try.func186, Try.ntmps186
  go_wp2_with fail
  refine (srcPick_any g B N 601 _ T.out.1 (by omega) (by omega)).mono ?_
  rintro e w1 ⟨x, x1, x2, rfl, S1, K1⟩
  have T := Lib.hid (T.out.keep S1 K1)
  go_wp2_with fail
  refine (srcOne_any g B _ 2 _ T.out.1 (by omega) (by omega)).mono ?_
  rintro e w2 ⟨b, rfl, S2, K2⟩
  have T := Lib.hid (T.out.keep S2 K2)
  clear S1 K1 S2 K2
  cases b
  · go_wp2_with fail
    refine (srcPick_any g B _ 300 _ T.out.1 (by omega) (by omega)).mono ?_
    rintro e w4 ⟨y, y1, y2, rfl, S4, K4⟩
    have T := Lib.hid (T.out.keep S4 K4)
    go_wp2_with fail
    refine (l02Make_some _ _ _ (by omega) (by omega) (by omega) (by omega)).mono ?_
    rintro e w5 ⟨u, v, rfl, hb5⟩
    have T := Lib.hid (T.out.next hb5)
    clear hb5 S4 K4
    obtain ⟨r0, r1, rf, rl⟩ := T.out.2.2.1
    have rf0 := rf 0
    have rf1 := rf 1
    clear rf
    obtain ⟨s0, s1⟩ := set_two r0 r1
    go_wp2
    refine bodyPost_ret ?_ rfl (S0.ret T.out (by omega) _ _ u v)
    simp [results, Try.results186, go_sem, s0, s1]
  · go_wp2_with fail
    refine (srcPick_any g B _ 301 _ T.out.1 (by omega) (by omega)).mono ?_
    rintro e w3 ⟨z, z1, z2, rfl, S3, K3⟩
    have T := Lib.hid ((T.out.keep S3 K3))
    clear S3 K3
    go_wp2_with fail
    refine (srcPick_any g B _ 300 _ T.out.1 (by omega) (by omega)).mono ?_
    rintro e w4 ⟨y, y1, y2, rfl, S4, K4⟩
    have T := Lib.hid (T.out.keep S4 K4)
    go_wp2_with fail
    refine (l02Make_some _ _ _ (by omega) (by omega) (by omega) (by omega)).mono ?_
    rintro e w5 ⟨u, v, rfl, hb5⟩
    have T := Lib.hid (T.out.next hb5)
    clear hb5 S4 K4
    obtain ⟨r0, r1, rf, rl⟩ := T.out.2.2.1
    have rf0 := rf 0
    have rf1 := rf 1
    clear rf
    obtain ⟨s0, s1⟩ := set_two r0 r1
    go_wp2
    refine bodyPost_ret ?_ rfl (S0.ret T.out (by omega) _ _ u v)
    simp [results, Try.results186, go_sem, s0, s1]
set_option maxHeartbeats 4000000 in
theorem l02Bent_any (g B N : Nat) (w : World) (h : Src g B N w) (hN : N ≤ 900000) :
    Calls Try.prog 142 #[.pointer (some ⟨g, 0, none⟩)] w (RetF g B (N + 14) w) := by
  have T := Lib.hid (S0.start h 25)
  clear h
  go_enter Try.func142, Try.ntmps142
  go_wp2_with fail
  refine (l02Draw_any g B N _ T.out.1 (by omega)).mono ?_
  rintro e w1 ⟨a, b, rfl, S1, K1⟩
  have T := Lib.hid (SF.start (T.out.keep S1 K1) a b 25)
  clear S1 K1
  go_wp2_with fail
  refine (srcPick_any g B _ 20 _ T.out.1.1 (by omega) (by omega)).mono ?_
  rintro e w2 ⟨k, k1, k2, rfl, S2, K2⟩
  have T := Lib.hid (T.out.keep S2 K2)
  clear S2 K2
  by_cases e0 : k = 0
  · skip
    obtain ⟨c0, c1, cf, cl⟩ := T.out.2.1
    have cf0 := cf 0
    have cf1 := cf 1
    clear cf
    have hz := Nat.lt_of_lt_of_le T.out.1.2.2.2 T.out.1.2.1.2.1
    go_wp2_with fail
    refine (srcAmong_any g B _ _ _ [-1000000001, -1000000000, 1000000000, 1000000001, -9223372036854775808] _ (T.out.alloc _).1.1 (by omega) (rd_lit _ _ _ _ rfl) (fun b o e => by injection e with e; injection e; omega) (by simp) (by simp)).mono ?_
    rintro e w3 ⟨x, hx, rfl, S3, K3⟩
    have T := Lib.hid ((T.out.alloc _).keep S3 K3)
    clear c0 c1 cf0 cf1 cl hz
    obtain ⟨c0, c1, cf, cl⟩ := T.out.2.1
    have cf0 := cf 0
    have cf1 := cf 1
    clear cf
    have hz := Nat.lt_of_lt_of_le T.out.1.2.2.2 T.out.1.2.1.2.1
    have T := Lib.hid (T.out.set0 x)
    clear S3 K3 hx
    have T0 := Lib.hid T.out.1
    obtain ⟨d0, d1, df, dl⟩ := T.out.2.1
    obtain ⟨r0, r1, rf, rl⟩ := T0.out.2.2.1
    have rf0 := rf 0
    have rf1 := rf 1
    clear rf df
    obtain ⟨s0, s1⟩ := set_two r0 r1
    go_wp2
    refine bodyPost_ret ?_ rfl (SF.ret T.out (by omega) _ _)
    simp [results, Try.results142, go_sem, s0, s1]
  · by_cases e1 : k = 1
    · skip
      obtain ⟨c0, c1, cf, cl⟩ := T.out.2.1
      have cf0 := cf 0
      have cf1 := cf 1
      clear cf
      have hz := Nat.lt_of_lt_of_le T.out.1.2.2.2 T.out.1.2.1.2.1
      go_wp2_with fail
      refine (srcAmong_any g B _ _ _ [-1, 0, 1, 1000000000, 1000000001, 9223372036854775807] _ (T.out.alloc _).1.1 (by omega) (rd_lit _ _ _ _ rfl) (fun b o e => by injection e with e; injection e; omega) (by simp) (by simp)).mono ?_
      rintro e w3 ⟨x, hx, rfl, S3, K3⟩
      have T := Lib.hid ((T.out.alloc _).keep S3 K3)
      clear c0 c1 cf0 cf1 cl hz
      obtain ⟨c0, c1, cf, cl⟩ := T.out.2.1
      have cf0 := cf 0
      have cf1 := cf 1
      clear cf
      have hz := Nat.lt_of_lt_of_le T.out.1.2.2.2 T.out.1.2.1.2.1
      have T := Lib.hid (T.out.set1 x)
      clear S3 K3 hx
      have T0 := Lib.hid T.out.1
      obtain ⟨d0, d1, df, dl⟩ := T.out.2.1
      obtain ⟨r0, r1, rf, rl⟩ := T0.out.2.2.1
      have rf0 := rf 0
      have rf1 := rf 1
      clear rf df
      obtain ⟨s0, s1⟩ := set_two r0 r1
      go_wp2
      refine bodyPost_ret ?_ rfl (SF.ret T.out (by omega) _ _)
      simp [results, Try.results142, go_sem, s0, s1]
    · by_cases e2 : k = 2
      · have T0 := Lib.hid T.out.1
        obtain ⟨r0, r1, rf, rl⟩ := T0.out.2.2.1
        have rf0 := rf 0
        have rf1 := rf 1
        clear rf
        obtain ⟨s0, s1⟩ := set_two r0 r1
        go_wp2
        refine bodyPost_ret ?_ rfl (S0.ret T0.out (by omega) _ _ 2 4)
        simp [results, Try.results142, go_sem, s0, s1]
      · by_cases e3 : k = 3
        · go_wp2_with fail
          refine (srcPick_any g B _ 5 _ T.out.1.1 (by omega) (by omega)).mono ?_
          rintro e w3 ⟨x, x1, x2, rfl, S3, K3⟩
          have T := Lib.hid (T.out.keep S3 K3)
          go_wp2_with fail
          refine (srcPick_any g B _ 5 _ T.out.1.1 (by omega) (by omega)).mono ?_
          rintro e w4 ⟨y, y1, y2, rfl, S4, K4⟩
          have T := Lib.hid (T.out.keep S4 K4)
          go_wp2_with fail
          refine (l02Make_some _ _ _ (by omega) (by omega) (by omega) (by omega)).mono ?_
          rintro e w5 ⟨u, v, rfl, hb5⟩
          have T := Lib.hid (T.out.next hb5)
          clear hb5 S3 K3 S4 K4
          obtain ⟨c0, c1, cf, cl⟩ := T.out.2.1
          have cf0 := cf 0
          have cf1 := cf 1
          clear cf
          have hz := Nat.lt_of_lt_of_le T.out.1.2.2.2 T.out.1.2.1.2.1
          have T := Lib.hid ((T.out.set0 u).set1 v)
          have T0 := Lib.hid T.out.1
          obtain ⟨d0, d1, df, dl⟩ := T.out.2.1
          obtain ⟨r0, r1, rf, rl⟩ := T0.out.2.2.1
          have rf0 := rf 0
          have rf1 := rf 1
          clear rf df
          obtain ⟨s0, s1⟩ := set_two r0 r1
          go_wp2
          refine bodyPost_ret ?_ rfl (SF.ret T.out (by omega) _ _)
          simp [results, Try.results142, go_sem, s0, s1]
        · skip
          obtain ⟨c0, c1, cf, cl⟩ := T.out.2.1
          have cf0 := cf 0
          have cf1 := cf 1
          clear cf
          have hz := Nat.lt_of_lt_of_le T.out.1.2.2.2 T.out.1.2.1.2.1
          have T0 := Lib.hid T.out.1
          obtain ⟨d0, d1, df, dl⟩ := T.out.2.1
          obtain ⟨r0, r1, rf, rl⟩ := T0.out.2.2.1
          have rf0 := rf 0
          have rf1 := rf 1
          clear rf df
          obtain ⟨s0, s1⟩ := set_two r0 r1
          go_wp2
          refine bodyPost_ret ?_ rfl (SF.ret T.out (by omega) _ _)
          simp [results, Try.results142, go_sem, s0, s1]
end Go.Proofs.Ytdjnblkgeaphmaa
