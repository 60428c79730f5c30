/- The draws of the calendars' arguments: the walks. No condition but those that each theorem names. -/
import Derived.Test.YtdjnblkgeaphmaaSrcW
import Derived.Test.YtdjnblkgeaphmaaCalW
namespace Go.Proofs.Ytdjnblkgeaphmaa
open Go.RowKit Go.Sort

theorem Keep.alloc {g : Nat} {a b : World} (h : Keep g a b) (hg : g < a.heap.size) (o : Obj) : Keep g a (b.alloc o) := h.trans (Keep.of (ext1 b o) (Nat.lt_of_lt_of_le hg h.2.1))
theorem Keep.setOther {g : Nat} {a b : World} (h : Keep g a b) (hg : g < a.heap.size) {i : Nat} (hi : a.heap.size ≤ i) (j : Nat) (u : Value) : Keep g a (b.setCell ⟨i, j, none⟩ u) :=
  ⟨h.1.setCell (by simp; omega) u, by simpa using h.2.1, fun k hk hl => (Below.heap_setCell b ⟨i, j, none⟩ u k (by simp; omega)).trans (h.2.2 k hk hl)⟩
theorem Src.setOther {g B N : Nat} {W : World} (h : Src g B N W) {i : Nat} (hi : g < i) (j : Nat) (u : Value) : Src g B N (W.setCell ⟨i, j, none⟩ u) := by
  obtain ⟨A, n, c, bs, k, sd, h0, h1, h2, h3, h4, h5, h6, h7, h8, h9, h10, h11⟩ := h
  have o : ∀ m, (W.setCell ⟨i, j, none⟩ u).cell? ⟨g, m, none⟩ = W.cell? ⟨g, m, none⟩ := fun m => World.cell?_setCell_other _ _ _ _ (by intro e; injection e; omega)
  exact ⟨A, n, c, bs, k, sd, (o 0).trans h0, (o 1).trans h1, (o 2).trans h2, h3, h4.below ((Below.refl _ _).setCell (by simp; omega) u), h5, h6, h7, h8, fun m => (World.frozen?_setCell _ _ _ _).trans (h9 m), by simpa using h10, h11⟩
theorem mul_rngD {x y M K : Int} (x0 : 0 ≤ x) (x1 : x ≤ M) (y0 : 0 ≤ y) (y1 : y ≤ K) : 0 ≤ x * y ∧ x * y ≤ M * K := ⟨Int.mul_nonneg x0 y0, Int.mul_le_mul x1 y1 y0 (by omega)⟩
/-- A new literal slice of integers. -/
theorem rd_lit (W : World) (cs : Array Value) (T : TypeId) (xs : List Int) (h : cs.toList = xs.map (Value.int .i64)) : Rd (Value.int .i64) (W.alloc (.cells cs T)) (W.alloc (.cells cs T)).heap.size (some ⟨W.heap.size, 0, none⟩) xs := fun _ =>
  ⟨W.heap.size, 0, rfl, by simp, fun j x hx => by
    rw [Nat.zero_add, cell_one, ← Array.getElem?_toList, h, List.getElem?_map, hx]; rfl⟩
/-- What a draw of one integer returns, whatever it is. -/
def RetA (g B N : Nat) (w : World) (e : Ending) (w' : World) : Prop := ∃ x : Int, e = .returned (.int .i64 x) ∧ Src g B N w' ∧ Keep g w w'

theorem l00From_any (A : Option Addr) (n c : Nat) (bs : List Int) (w : World) (hx : Rd (Value.int .u8) w w.heap.size A bs) (hl : bs.length = n) (hn : n ≤ 1000000) (hb : ∀ x ∈ bs, 0 ≤ x ∧ x ≤ 255) :
    Calls Try.prog 104 #[.slice A n c] w fun e w' => e = .returned (.pointer (some ⟨w.heap.size, 0, none⟩)) ∧ Src w.heap.size w.heap.size 0 w' ∧ Below w.heap.size w w' := by
  have HX := Lib.hid hx
  have HB := Lib.hid hb
  clear hx hb
  go_enter Try.func104, Try.ntmps104
  go_wp2
  go_ret
  exact ⟨rfl, ⟨A, n, c, bs, 0, 0, by rw [cell_one]; rfl, by rw [cell_one]; rfl, by rw [cell_one]; rfl, by omega, HX.out.below (ext1 _ _), hl, hn, HB.out, by omega, fun j => World.frozen?_alloc_at _ _ _ _ rfl, by simp, Nat.le_refl _⟩, ext1 _ _⟩
set_option maxHeartbeats 1000000 in
theorem l24DrawYear_any (g B N : Nat) (w : World) (h : Src g B N w) (hN : N ≤ 900000) :
    Calls Try.prog 120 #[.pointer (some ⟨g, 0, none⟩)] w (RetA g B (N + 6) w) := by
  have hg : g < w.heap.size := by obtain ⟨A, n, c, bs, k, sd, h0, h1, h2, h3, h4, h5, h6, h7, h8, h9, h10, h11⟩ := h; exact h10
  have HS := Lib.hid h
  clear h
  go_enter Try.func120, Try.ntmps120
  go_wp2_with fail
  refine (srcOne_any g B N 10 _ HS.out (by omega) (by omega)).mono ?_
  rintro e w1 ⟨b, rfl, S1, K1⟩
  have hy := K1.2.1
  cases b
  · go_wp2_with fail
    refine (srcPick_any g B _ 500 _ S1 (by omega) (by omega)).mono ?_
    rintro e w2 ⟨x, x1, x2, rfl, S2, K2⟩
    go_wp2_with fail
    refine (srcPick_any g B _ 20 _ S2 (by omega) (by omega)).mono ?_
    rintro e w3 ⟨y, y1, y2, rfl, S3, K3⟩
    obtain ⟨p1, p2⟩ := mul_rngD (x := x) (y := 1 + y) (M := 499) (K := 20) (by omega) (by omega) (by omega) (by omega)
    go_wp2
    go_ret
    exact ⟨_, rfl, S3, K1.trans (K2.trans K3)⟩
  · go_wp2_with fail
    refine (srcAmong_any g B _ _ _ [-1, 0, 100000, 100001, 9223372036854775807] _ (S1.next (ext1 _ _)) (by omega) (rd_lit _ _ _ _ rfl) (fun b o e => by injection e with e; injection e; omega) (by simp) (by simp)).mono ?_
    rintro e w2 ⟨x, hx, rfl, S2, K2⟩
    go_wp2
    go_ret
    exact ⟨_, rfl, S2.more (by omega), K1.trans ((Keep.of (ext1 _ _) (by omega)).trans K2)⟩
/-- A rule in block h. -/
def RB (h : Nat) (l c s : Int) (W : World) : Prop := W.cell? ⟨h, 0, none⟩ = some (.int .i64 l) ∧ W.cell? ⟨h, 1, none⟩ = some (.int .i64 c) ∧ W.cell? ⟨h, 2, none⟩ = some (.int .i64 s) ∧ (∀ j, W.frozen? ⟨h, j, none⟩ = false) ∧ h < W.heap.size
theorem RB.keep {g h : Nat} {l c s : Int} {W W' : World} (hb : RB h l c s W) (k : Keep g W W') (hg : h ≠ g) : RB h l c s W' :=
  ⟨(k.cell hg hb.2.2.2.2).trans hb.1, (k.cell hg hb.2.2.2.2).trans hb.2.1, (k.cell hg hb.2.2.2.2).trans hb.2.2.1, fun j => (k.frozen hg hb.2.2.2.2).trans (hb.2.2.2.1 j), Nat.lt_of_lt_of_le hb.2.2.2.2 k.2.1⟩
theorem RB.new (W : World) (l c s : Int) (T : TypeId) : RB W.heap.size l c s (W.alloc (.cells #[.int .i64 l, .int .i64 c, .int .i64 s] T)) :=
  ⟨by rw [cell_one]; rfl, by rw [cell_one]; rfl, by rw [cell_one]; rfl, fun j => World.frozen?_alloc_at _ _ _ _ rfl, by simp⟩
theorem RB.far {h i : Nat} {l c s : Int} {W : World} (hb : RB h l c s W) (hi : h ≠ i) (j : Nat) (u : Value) : RB h l c s (W.setCell ⟨i, j, none⟩ u) := by
  have o : ∀ m, (W.setCell ⟨i, j, none⟩ u).cell? ⟨h, m, none⟩ = W.cell? ⟨h, m, none⟩ := fun m => World.cell?_setCell_other _ _ _ _ (by intro e; injection e; omega)
  exact ⟨(o 0).trans hb.1, (o 1).trans hb.2.1, (o 2).trans hb.2.2.1, fun m => (World.frozen?_setCell _ _ _ _).trans (hb.2.2.2.1 m), by simpa using hb.2.2.2.2⟩
theorem RB.set0 {h : Nat} {l c s : Int} {W : World} (hb : RB h l c s W) (x : Int) : RB h x c s (W.setCell ⟨h, 0, none⟩ (.int .i64 x)) := by
  have o : ∀ m, m ≠ 0 → (W.setCell ⟨h, 0, none⟩ (.int .i64 x)).cell? ⟨h, m, none⟩ = W.cell? ⟨h, m, none⟩ := fun m hm => World.cell?_setCell_other _ _ _ _ (by intro e; injection e; omega)
  exact ⟨World.cell?_setCell_same _ _ _ hb.1, (o 1 (by omega)).trans hb.2.1, (o 2 (by omega)).trans hb.2.2.1, fun m => (World.frozen?_setCell _ _ _ _).trans (hb.2.2.2.1 m), by simpa using hb.2.2.2.2⟩
theorem RB.set1 {h : Nat} {l c s : Int} {W : World} (hb : RB h l c s W) (x : Int) : RB h l x s (W.setCell ⟨h, 1, none⟩ (.int .i64 x)) := by
  have o : ∀ m, m ≠ 1 → (W.setCell ⟨h, 1, none⟩ (.int .i64 x)).cell? ⟨h, m, none⟩ = W.cell? ⟨h, m, none⟩ := fun m hm => World.cell?_setCell_other _ _ _ _ (by intro e; injection e; omega)
  exact ⟨(o 0 (by omega)).trans hb.1, World.cell?_setCell_same _ _ _ hb.2.1, (o 2 (by omega)).trans hb.2.2.1, fun m => (World.frozen?_setCell _ _ _ _).trans (hb.2.2.2.1 m), by simpa using hb.2.2.2.2⟩
theorem RB.set2 {h : Nat} {l c s : Int} {W : World} (hb : RB h l c s W) (x : Int) : RB h l c x (W.setCell ⟨h, 2, none⟩ (.int .i64 x)) := by
  have o : ∀ m, m ≠ 2 → (W.setCell ⟨h, 2, none⟩ (.int .i64 x)).cell? ⟨h, m, none⟩ = W.cell? ⟨h, m, none⟩ := fun m hm => World.cell?_setCell_other _ _ _ _ (by intro e; injection e; omega)
  exact ⟨(o 0 (by omega)).trans hb.1, (o 1 (by omega)).trans hb.2.1, World.cell?_setCell_same _ _ _ hb.2.2.1, fun m => (World.frozen?_setCell _ _ _ _).trans (hb.2.2.2.1 m), by simpa using hb.2.2.2.2⟩
/-- The state while a rule is drawn: the source in g, the result in w's first new block, the rule in h. -/
def ST (g B N : Nat) (w : World) (h : Nat) (l c s : Int) (W : World) : Prop := Src g B N W ∧ Keep g w W ∧ RB h l c s W ∧ RB w.heap.size 0 0 0 W ∧ w.heap.size < h ∧ g < w.heap.size
section
variable {g B N : Nat} {w : World} {h : Nat} {l c s : Int} {W : World}
theorem ST.keep {M : Nat} {W' : World} (t : ST g B N w h l c s W) (hs : Src g B M W') (k : Keep g W W') : ST g B M w h l c s W' := by
  obtain ⟨t1, t2, t3, t4, t5, t6⟩ := t
  exact ⟨hs, t2.trans k, t3.keep k (by omega), t4.keep k (by omega), t5, t6⟩
theorem ST.alloc (t : ST g B N w h l c s W) (o : Obj) : ST g B N w h l c s (W.alloc o) :=
  t.keep (t.1.next (ext1 _ _)) (Keep.of (ext1 _ _) (Nat.lt_of_lt_of_le t.2.2.2.2.2 t.2.1.2.1))
theorem ST.set {l' c' s' : Int} {j : Nat} {u : Value} (t : ST g B N w h l c s W) (r : RB h l' c' s' (W.setCell ⟨h, j, none⟩ u)) : ST g B N w h l' c' s' (W.setCell ⟨h, j, none⟩ u) := by
  obtain ⟨t1, t2, t3, t4, t5, t6⟩ := t
  exact ⟨t1.setOther (by omega) j u, t2.setOther t6 (by omega) j u, r, t4.far (by omega) j u, t5, t6⟩
theorem ST.set0 (t : ST g B N w h l c s W) (x : Int) : ST g B N w h x c s (W.setCell ⟨h, 0, none⟩ (.int .i64 x)) := t.set (t.2.2.1.set0 x)
theorem ST.set1 (t : ST g B N w h l c s W) (x : Int) : ST g B N w h l x s (W.setCell ⟨h, 1, none⟩ (.int .i64 x)) := t.set (t.2.2.1.set1 x)
theorem ST.set2 (t : ST g B N w h l c s W) (x : Int) : ST g B N w h l c x (W.setCell ⟨h, 2, none⟩ (.int .i64 x)) := t.set (t.2.2.1.set2 x)
theorem ST.start {w1 : World} {T : TypeId} (hg : g < w.heap.size) (hs : Src g B N w1) (k : Keep g (w.alloc (.cells #[.int .i64 0, .int .i64 0, .int .i64 0] T)) w1) (c : Int) (T' : TypeId) : ST g B N w w1.heap.size 0 c 0 (w1.alloc (.cells #[.int .i64 0, .int .i64 c, .int .i64 0] T')) := by
  have h1 := k.2.1
  simp at h1
  have k2 : Keep g w1 (w1.alloc (.cells #[.int .i64 0, .int .i64 c, .int .i64 0] T')) := Keep.of (ext1 _ _) (by omega)
  exact ⟨hs.next (ext1 _ _), (Keep.of (ext1 _ _) hg).trans (k.trans k2), RB.new _ _ _ _ _, ((RB.new w 0 0 0 T).keep k (by omega)).keep k2 (by omega), by omega, hg⟩
/-- What a draw of a rule returns. -/
def RetRule (g B N : Nat) (w : World) (e : Ending) (w' : World) : Prop := ∃ l c s : Int, e = .returned (ruleV l c s) ∧ Src g B N w' ∧ Keep g w w'
theorem ST.ret {M : Nat} (t : ST g B N w h l c s W) (hM : N ≤ M) (x y z : Value) : RetRule g B M w (.returned (ruleV l c s)) (((W.setCell ⟨w.heap.size, 0, none⟩ x).setCell ⟨w.heap.size, 1, none⟩ y).setCell ⟨w.heap.size, 2, none⟩ z) := by
  obtain ⟨t1, t2, t3, t4, t5, t6⟩ := t
  exact ⟨l, c, s, rfl, (((t1.setOther t6 _ _).setOther t6 _ _).setOther t6 _ _).more hM, ((t2.setOther t6 (Nat.le_refl _) _ _).setOther t6 (Nat.le_refl _) _ _).setOther t6 (Nat.le_refl _) _ _⟩
end
theorem set_three {w : World} {b : Nat} {x y z : Value} (h0 : w.cell? ⟨b, 0, none⟩ = some x) (h1 : w.cell? ⟨b, 1, none⟩ = some y) (h2 : w.cell? ⟨b, 2, none⟩ = some z) :
    (∀ v, (w.setCell ⟨b, 0, none⟩ v).cell? ⟨b, 0, none⟩ = some v) ∧ (∀ u v, ((w.setCell ⟨b, 0, none⟩ u).setCell ⟨b, 1, none⟩ v).cell? ⟨b, 1, none⟩ = some v) ∧ (∀ t u v, (((w.setCell ⟨b, 0, none⟩ t).setCell ⟨b, 1, none⟩ u).setCell ⟨b, 2, none⟩ v).cell? ⟨b, 2, none⟩ = some v) :=
  ⟨fun v => World.cell?_setCell_same _ _ _ h0, fun u v => World.cell?_setCell_same (v := v) _ _ ((World.cell?_setCell_other _ ⟨b, 0, none⟩ ⟨b, 1, none⟩ _ (by simp)).trans h1),
   fun t u v => World.cell?_setCell_same (v := v) _ _ ((World.cell?_setCell_other _ ⟨b, 1, none⟩ ⟨b, 2, none⟩ _ (by simp)).trans ((World.cell?_setCell_other _ ⟨b, 0, none⟩ ⟨b, 2, none⟩ _ (by simp)).trans h2))⟩
set_option maxHeartbeats 8000000 in
theorem l24Draw_any (g B N : Nat) (w : World) (h : Src g B N w) (hN : N ≤ 900000) :
    Calls Try.prog 119 #[.pointer (some ⟨g, 0, none⟩)] w (RetRule g B (N + 20) w) := by
  have hg : g < w.heap.size := by obtain ⟨A, n, c, bs, k, sd, h0, h1, h2, h3, h4, h5, h6, h7, h8, h9, h10, h11⟩ := h; exact h10
  have HS := Lib.hid h
  clear h
  go_enter Try.func119, Try.ntmps119
  go_wp2_with fail
  refine (srcPick_any g B _ 40 _ (HS.out.next (ext1 _ _)) (by omega) (by omega)).mono ?_
  rintro e w1 ⟨x, x1, x2, rfl, S1, K1⟩
  obtain ⟨c, hc⟩ : ∃ c, 1 + x = c := ⟨_, rfl⟩
  have cb : 1 ≤ c ∧ c ≤ 400 := by omega
  obtain ⟨cb1, cb2⟩ := cb
  have T := Lib.hid (ST.start hg S1 K1 c 60)
  obtain rfl : x = c - 1 := by omega
  go_wp2_with fail
  refine (srcOne_any g B _ 3 _ T.out.1 (by omega) (by omega)).mono ?_
  rintro e w2 ⟨b, rfl, S2, K2⟩
  have T := Lib.hid (T.out.keep S2 K2)
  obtain ⟨c0, c1, c2, cf, cl⟩ := T.out.2.2.1
  have f0 := cf 0
  have f1 := cf 1
  have f2 := cf 2
  have hz := Nat.lt_of_lt_of_le T.out.2.2.2.2.2 T.out.2.1.2.1
  clear cf
  cases b
  · go_wp2_with fail
    refine (srcPick_any g B _ (c + 1) _ T.out.1 (by omega) (by omega)).mono ?_
    rintro e w5 ⟨l, l1, l2, rfl, S5, K5⟩
    have T := Lib.hid (T.out.keep S5 K5)
    clear c0 c1 c2 f0 f1 f2 cl hz
    obtain ⟨c0, c1, c2, cf, cl⟩ := T.out.2.2.1
    have f0 := cf 0
    have f1 := cf 1
    have f2 := cf 2
    have hz := Nat.lt_of_lt_of_le T.out.2.2.2.2.2 T.out.2.1.2.1
    clear cf
    have T := Lib.hid (T.out.set0 l)
    go_wp2_with fail
    refine (srcOne_any g B _ 2 _ T.out.1 (by omega) (by omega)).mono ?_
    rintro e w6 ⟨b, rfl, S6, K6⟩
    have T := Lib.hid (T.out.keep S6 K6)
    clear c0 c1 c2 f0 f1 f2 cl hz
    obtain ⟨c0, c1, c2, cf, cl⟩ := T.out.2.2.1
    have f0 := cf 0
    have f1 := cf 1
    have f2 := cf 2
    have hz := Nat.lt_of_lt_of_le T.out.2.2.2.2.2 T.out.2.1.2.1
    clear cf
    cases b
    · go_wp2_with fail
      refine (srcPick_any g B _ c _ T.out.1 (by omega) (by omega)).mono ?_
      rintro e w8 ⟨s, s1', s2', rfl, S8, K8⟩
      have T := Lib.hid (T.out.keep S8 K8)
      clear c0 c1 c2 f0 f1 f2 cl hz
      obtain ⟨c0, c1, c2, cf, cl⟩ := T.out.2.2.1
      have f0 := cf 0
      have f1 := cf 1
      have f2 := cf 2
      have hz := Nat.lt_of_lt_of_le T.out.2.2.2.2.2 T.out.2.1.2.1
      clear cf
      have T := Lib.hid (T.out.set2 s)
      go_wp2_with fail
      clear c0 c1 c2 f0 f1 f2 cl hz
      refine (srcPick_any g B _ 20 _ T.out.1 (by omega) (by omega)).mono ?_
      rintro e w9 ⟨k, k1, k2, rfl, S9, K9⟩
      have T := Lib.hid (T.out.keep S9 K9)
      obtain ⟨c0, c1, c2, cf, cl⟩ := T.out.2.2.1
      have f0 := cf 0
      have f1 := cf 1
      have f2 := cf 2
      have hz := Nat.lt_of_lt_of_le T.out.2.2.2.2.2 T.out.2.1.2.1
      clear cf
      by_cases e0 : k = 0
      · go_wp2_with fail
        refine (srcAmong_any g B _ _ _ [0, 1, 1000, 1001, -9223372036854775808] _ (T.out.alloc _).1 (by omega) (rd_lit _ _ _ _ rfl) (fun b o e => by injection e with e; injection e; omega) (by simp) (by simp)).mono ?_
        rintro e w10 ⟨c, hcm, rfl, S10, K10⟩
        have T := Lib.hid ((T.out.alloc _).keep S10 K10)
        clear c0 c1 c2 f0 f1 f2 cl hz
        obtain ⟨c0, c1, c2, cf, cl⟩ := T.out.2.2.1
        have f0 := cf 0
        have f1 := cf 1
        have f2 := cf 2
        have hz := Nat.lt_of_lt_of_le T.out.2.2.2.2.2 T.out.2.1.2.1
        clear cf
        have T := Lib.hid (T.out.set1 c)
        obtain ⟨d0, d1, d2, df, dl⟩ := T.out.2.2.1
        obtain ⟨r0, r1, r2, rf, rl⟩ := T.out.2.2.2.1
        have rf0 := rf 0
        have rf1 := rf 1
        have rf2 := rf 2
        obtain ⟨s0, s1, s2⟩ := set_three r0 r1 r2
        clear rf df
        go_wp2
        refine bodyPost_ret ?_ rfl (ST.ret T.out (by omega) _ _ _)
        simp [results, Try.results119, go_sem, s0, s1, s2]
      · by_cases e1 : k = 1
        · go_wp2_with fail
          refine (srcAmong_any g B _ _ _ [-1, 0, c, c + 1] _ (T.out.alloc _).1 (by omega) (rd_lit _ _ _ _ rfl) (fun b o e => by injection e with e; injection e; omega) (by simp) (by simp)).mono ?_
          rintro e w10 ⟨l, hcm, rfl, S10, K10⟩
          have T := Lib.hid ((T.out.alloc _).keep S10 K10)
          clear c0 c1 c2 f0 f1 f2 cl hz
          obtain ⟨c0, c1, c2, cf, cl⟩ := T.out.2.2.1
          have f0 := cf 0
          have f1 := cf 1
          have f2 := cf 2
          have hz := Nat.lt_of_lt_of_le T.out.2.2.2.2.2 T.out.2.1.2.1
          clear cf
          have T := Lib.hid (T.out.set0 l)
          obtain ⟨d0, d1, d2, df, dl⟩ := T.out.2.2.1
          obtain ⟨r0, r1, r2, rf, rl⟩ := T.out.2.2.2.1
          have rf0 := rf 0
          have rf1 := rf 1
          have rf2 := rf 2
          obtain ⟨s0, s1, s2⟩ := set_three r0 r1 r2
          clear rf df
          go_wp2
          refine bodyPost_ret ?_ rfl (ST.ret T.out (by omega) _ _ _)
          simp [results, Try.results119, go_sem, s0, s1, s2]
        · by_cases e2 : k = 2
          · go_wp2_with fail
            refine (srcAmong_any g B _ _ _ [-1, 0, c] _ (T.out.alloc _).1 (by omega) (rd_lit _ _ _ _ rfl) (fun b o e => by injection e with e; injection e; omega) (by simp) (by simp)).mono ?_
            rintro e w10 ⟨s, hcm, rfl, S10, K10⟩
            have T := Lib.hid ((T.out.alloc _).keep S10 K10)
            clear c0 c1 c2 f0 f1 f2 cl hz
            obtain ⟨c0, c1, c2, cf, cl⟩ := T.out.2.2.1
            have f0 := cf 0
            have f1 := cf 1
            have f2 := cf 2
            have hz := Nat.lt_of_lt_of_le T.out.2.2.2.2.2 T.out.2.1.2.1
            clear cf
            have T := Lib.hid (T.out.set2 s)
            obtain ⟨d0, d1, d2, df, dl⟩ := T.out.2.2.1
            obtain ⟨r0, r1, r2, rf, rl⟩ := T.out.2.2.2.1
            have rf0 := rf 0
            have rf1 := rf 1
            have rf2 := rf 2
            obtain ⟨s0, s1, s2⟩ := set_three r0 r1 r2
            clear rf df
            go_wp2
            refine bodyPost_ret ?_ rfl (ST.ret T.out (by omega) _ _ _)
            simp [results, Try.results119, go_sem, s0, s1, s2]
          · skip
            obtain ⟨d0, d1, d2, df, dl⟩ := T.out.2.2.1
            obtain ⟨r0, r1, r2, rf, rl⟩ := T.out.2.2.2.1
            have rf0 := rf 0
            have rf1 := rf 1
            have rf2 := rf 2
            obtain ⟨s0, s1, s2⟩ := set_three r0 r1 r2
            clear rf df
            go_wp2
            refine bodyPost_ret ?_ rfl (ST.ret T.out (by omega) _ _ _)
            simp [results, Try.results119, go_sem, s0, s1, s2]
    · have T := Lib.hid (T.out.set0 ((c + 2) / 4))
      go_wp2_with fail
      refine (srcPick_any g B _ c _ T.out.1 (by omega) (by omega)).mono ?_
      rintro e w8 ⟨s, s1', s2', rfl, S8, K8⟩
      have T := Lib.hid (T.out.keep S8 K8)
      clear c0 c1 c2 f0 f1 f2 cl hz
      obtain ⟨c0, c1, c2, cf, cl⟩ := T.out.2.2.1
      have f0 := cf 0
      have f1 := cf 1
      have f2 := cf 2
      have hz := Nat.lt_of_lt_of_le T.out.2.2.2.2.2 T.out.2.1.2.1
      clear cf
      have T := Lib.hid (T.out.set2 s)
      go_wp2_with fail
      clear c0 c1 c2 f0 f1 f2 cl hz
      refine (srcPick_any g B _ 20 _ T.out.1 (by omega) (by omega)).mono ?_
      rintro e w9 ⟨k, k1, k2, rfl, S9, K9⟩
      have T := Lib.hid (T.out.keep S9 K9)
      obtain ⟨c0, c1, c2, cf, cl⟩ := T.out.2.2.1
      have f0 := cf 0
      have f1 := cf 1
      have f2 := cf 2
      have hz := Nat.lt_of_lt_of_le T.out.2.2.2.2.2 T.out.2.1.2.1
      clear cf
      by_cases e0 : k = 0
      · go_wp2_with fail
        refine (srcAmong_any g B _ _ _ [0, 1, 1000, 1001, -9223372036854775808] _ (T.out.alloc _).1 (by omega) (rd_lit _ _ _ _ rfl) (fun b o e => by injection e with e; injection e; omega) (by simp) (by simp)).mono ?_
        rintro e w10 ⟨c, hcm, rfl, S10, K10⟩
        have T := Lib.hid ((T.out.alloc _).keep S10 K10)
        clear c0 c1 c2 f0 f1 f2 cl hz
        obtain ⟨c0, c1, c2, cf, cl⟩ := T.out.2.2.1
        have f0 := cf 0
        have f1 := cf 1
        have f2 := cf 2
        have hz := Nat.lt_of_lt_of_le T.out.2.2.2.2.2 T.out.2.1.2.1
        clear cf
        have T := Lib.hid (T.out.set1 c)
        obtain ⟨d0, d1, d2, df, dl⟩ := T.out.2.2.1
        obtain ⟨r0, r1, r2, rf, rl⟩ := T.out.2.2.2.1
        have rf0 := rf 0
        have rf1 := rf 1
        have rf2 := rf 2
        obtain ⟨s0, s1, s2⟩ := set_three r0 r1 r2
        clear rf df
        go_wp2
        refine bodyPost_ret ?_ rfl (ST.ret T.out (by omega) _ _ _)
        simp [results, Try.results119, go_sem, s0, s1, s2]
      · by_cases e1 : k = 1
        · go_wp2_with fail
          refine (srcAmong_any g B _ _ _ [-1, 0, c, c + 1] _ (T.out.alloc _).1 (by omega) (rd_lit _ _ _ _ rfl) (fun b o e => by injection e with e; injection e; omega) (by simp) (by simp)).mono ?_
          rintro e w10 ⟨l, hcm, rfl, S10, K10⟩
          have T := Lib.hid ((T.out.alloc _).keep S10 K10)
          clear c0 c1 c2 f0 f1 f2 cl hz
          obtain ⟨c0, c1, c2, cf, cl⟩ := T.out.2.2.1
          have f0 := cf 0
          have f1 := cf 1
          have f2 := cf 2
          have hz := Nat.lt_of_lt_of_le T.out.2.2.2.2.2 T.out.2.1.2.1
          clear cf
          have T := Lib.hid (T.out.set0 l)
          obtain ⟨d0, d1, d2, df, dl⟩ := T.out.2.2.1
          obtain ⟨r0, r1, r2, rf, rl⟩ := T.out.2.2.2.1
          have rf0 := rf 0
          have rf1 := rf 1
          have rf2 := rf 2
          obtain ⟨s0, s1, s2⟩ := set_three r0 r1 r2
          clear rf df
          go_wp2
          refine bodyPost_ret ?_ rfl (ST.ret T.out (by omega) _ _ _)
          simp [results, Try.results119, go_sem, s0, s1, s2]
        · by_cases e2 : k = 2
          · go_wp2_with fail
            refine (srcAmong_any g B _ _ _ [-1, 0, c] _ (T.out.alloc _).1 (by omega) (rd_lit _ _ _ _ rfl) (fun b o e => by injection e with e; injection e; omega) (by simp) (by simp)).mono ?_
            rintro e w10 ⟨s, hcm, rfl, S10, K10⟩
            have T := Lib.hid ((T.out.alloc _).keep S10 K10)
            clear c0 c1 c2 f0 f1 f2 cl hz
            obtain ⟨c0, c1, c2, cf, cl⟩ := T.out.2.2.1
            have f0 := cf 0
            have f1 := cf 1
            have f2 := cf 2
            have hz := Nat.lt_of_lt_of_le T.out.2.2.2.2.2 T.out.2.1.2.1
            clear cf
            have T := Lib.hid (T.out.set2 s)
            obtain ⟨d0, d1, d2, df, dl⟩ := T.out.2.2.1
            obtain ⟨r0, r1, r2, rf, rl⟩ := T.out.2.2.2.1
            have rf0 := rf 0
            have rf1 := rf 1
            have rf2 := rf 2
            obtain ⟨s0, s1, s2⟩ := set_three r0 r1 r2
            clear rf df
            go_wp2
            refine bodyPost_ret ?_ rfl (ST.ret T.out (by omega) _ _ _)
            simp [results, Try.results119, go_sem, s0, s1, s2]
          · skip
            obtain ⟨d0, d1, d2, df, dl⟩ := T.out.2.2.1
            obtain ⟨r0, r1, r2, rf, rl⟩ := T.out.2.2.2.1
            have rf0 := rf 0
            have rf1 := rf 1
            have rf2 := rf 2
            obtain ⟨s0, s1, s2⟩ := set_three r0 r1 r2
            clear rf df
            go_wp2
            refine bodyPost_ret ?_ rfl (ST.ret T.out (by omega) _ _ _)
            simp [results, Try.results119, go_sem, s0, s1, s2]
  · go_wp2_with fail
    refine (srcAmong_any g B _ _ _ [4, 33, 100, 128, 400] _ (T.out.alloc _).1 (by omega) (rd_lit _ _ _ _ rfl) (fun b o e => by injection e with e; injection e; omega) (by simp) (by simp)).mono ?_
    clear cb1 cb2
    rintro e w3 ⟨c, hcm, rfl, S3, K3⟩
    have cb : 1 ≤ c ∧ c ≤ 400 := by simp at hcm; omega
    have T := Lib.hid ((T.out.alloc _).keep S3 K3)
    clear c0 c1 c2 f0 f1 f2 cl hz
    obtain ⟨c0, c1, c2, cf, cl⟩ := T.out.2.2.1
    have f0 := cf 0
    have f1 := cf 1
    have f2 := cf 2
    have hz := Nat.lt_of_lt_of_le T.out.2.2.2.2.2 T.out.2.1.2.1
    clear cf
    obtain ⟨cb1, cb2⟩ := cb
    have T := Lib.hid (T.out.set1 c)
    go_wp2_with fail
    refine (srcPick_any g B _ (c + 1) _ T.out.1 (by omega) (by omega)).mono ?_
    rintro e w5 ⟨l, l1, l2, rfl, S5, K5⟩
    have T := Lib.hid (T.out.keep S5 K5)
    clear c0 c1 c2 f0 f1 f2 cl hz
    obtain ⟨c0, c1, c2, cf, cl⟩ := T.out.2.2.1
    have f0 := cf 0
    have f1 := cf 1
    have f2 := cf 2
    have hz := Nat.lt_of_lt_of_le T.out.2.2.2.2.2 T.out.2.1.2.1
    clear cf
    have T := Lib.hid (T.out.set0 l)
    go_wp2_with fail
    refine (srcOne_any g B _ 2 _ T.out.1 (by omega) (by omega)).mono ?_
    rintro e w6 ⟨b, rfl, S6, K6⟩
    have T := Lib.hid (T.out.keep S6 K6)
    clear c0 c1 c2 f0 f1 f2 cl hz
    obtain ⟨c0, c1, c2, cf, cl⟩ := T.out.2.2.1
    have f0 := cf 0
    have f1 := cf 1
    have f2 := cf 2
    have hz := Nat.lt_of_lt_of_le T.out.2.2.2.2.2 T.out.2.1.2.1
    clear cf
    cases b
    · go_wp2_with fail
      refine (srcPick_any g B _ c _ T.out.1 (by omega) (by omega)).mono ?_
      rintro e w8 ⟨s, s1', s2', rfl, S8, K8⟩
      have T := Lib.hid (T.out.keep S8 K8)
      clear c0 c1 c2 f0 f1 f2 cl hz
      obtain ⟨c0, c1, c2, cf, cl⟩ := T.out.2.2.1
      have f0 := cf 0
      have f1 := cf 1
      have f2 := cf 2
      have hz := Nat.lt_of_lt_of_le T.out.2.2.2.2.2 T.out.2.1.2.1
      clear cf
      have T := Lib.hid (T.out.set2 s)
      go_wp2_with fail
      clear c0 c1 c2 f0 f1 f2 cl hz
      refine (srcPick_any g B _ 20 _ T.out.1 (by omega) (by omega)).mono ?_
      rintro e w9 ⟨k, k1, k2, rfl, S9, K9⟩
      have T := Lib.hid (T.out.keep S9 K9)
      obtain ⟨c0, c1, c2, cf, cl⟩ := T.out.2.2.1
      have f0 := cf 0
      have f1 := cf 1
      have f2 := cf 2
      have hz := Nat.lt_of_lt_of_le T.out.2.2.2.2.2 T.out.2.1.2.1
      clear cf
      by_cases e0 : k = 0
      · go_wp2_with fail
        refine (srcAmong_any g B _ _ _ [0, 1, 1000, 1001, -9223372036854775808] _ (T.out.alloc _).1 (by omega) (rd_lit _ _ _ _ rfl) (fun b o e => by injection e with e; injection e; omega) (by simp) (by simp)).mono ?_
        rintro e w10 ⟨c, hcm, rfl, S10, K10⟩
        have T := Lib.hid ((T.out.alloc _).keep S10 K10)
        clear c0 c1 c2 f0 f1 f2 cl hz
        obtain ⟨c0, c1, c2, cf, cl⟩ := T.out.2.2.1
        have f0 := cf 0
        have f1 := cf 1
        have f2 := cf 2
        have hz := Nat.lt_of_lt_of_le T.out.2.2.2.2.2 T.out.2.1.2.1
        clear cf
        have T := Lib.hid (T.out.set1 c)
        obtain ⟨d0, d1, d2, df, dl⟩ := T.out.2.2.1
        obtain ⟨r0, r1, r2, rf, rl⟩ := T.out.2.2.2.1
        have rf0 := rf 0
        have rf1 := rf 1
        have rf2 := rf 2
        obtain ⟨s0, s1, s2⟩ := set_three r0 r1 r2
        clear rf df
        go_wp2
        refine bodyPost_ret ?_ rfl (ST.ret T.out (by omega) _ _ _)
        simp [results, Try.results119, go_sem, s0, s1, s2]
      · by_cases e1 : k = 1
        · go_wp2_with fail
          refine (srcAmong_any g B _ _ _ [-1, 0, c, c + 1] _ (T.out.alloc _).1 (by omega) (rd_lit _ _ _ _ rfl) (fun b o e => by injection e with e; injection e; omega) (by simp) (by simp)).mono ?_
          rintro e w10 ⟨l, hcm, rfl, S10, K10⟩
          have T := Lib.hid ((T.out.alloc _).keep S10 K10)
          clear c0 c1 c2 f0 f1 f2 cl hz
          obtain ⟨c0, c1, c2, cf, cl⟩ := T.out.2.2.1
          have f0 := cf 0
          have f1 := cf 1
          have f2 := cf 2
          have hz := Nat.lt_of_lt_of_le T.out.2.2.2.2.2 T.out.2.1.2.1
          clear cf
          have T := Lib.hid (T.out.set0 l)
          obtain ⟨d0, d1, d2, df, dl⟩ := T.out.2.2.1
          obtain ⟨r0, r1, r2, rf, rl⟩ := T.out.2.2.2.1
          have rf0 := rf 0
          have rf1 := rf 1
          have rf2 := rf 2
          obtain ⟨s0, s1, s2⟩ := set_three r0 r1 r2
          clear rf df
          go_wp2
          refine bodyPost_ret ?_ rfl (ST.ret T.out (by omega) _ _ _)
          simp [results, Try.results119, go_sem, s0, s1, s2]
        · by_cases e2 : k = 2
          · go_wp2_with fail
            refine (srcAmong_any g B _ _ _ [-1, 0, c] _ (T.out.alloc _).1 (by omega) (rd_lit _ _ _ _ rfl) (fun b o e => by injection e with e; injection e; omega) (by simp) (by simp)).mono ?_
            rintro e w10 ⟨s, hcm, rfl, S10, K10⟩
            have T := Lib.hid ((T.out.alloc _).keep S10 K10)
            clear c0 c1 c2 f0 f1 f2 cl hz
            obtain ⟨c0, c1, c2, cf, cl⟩ := T.out.2.2.1
            have f0 := cf 0
            have f1 := cf 1
            have f2 := cf 2
            have hz := Nat.lt_of_lt_of_le T.out.2.2.2.2.2 T.out.2.1.2.1
            clear cf
            have T := Lib.hid (T.out.set2 s)
            obtain ⟨d0, d1, d2, df, dl⟩ := T.out.2.2.1
            obtain ⟨r0, r1, r2, rf, rl⟩ := T.out.2.2.2.1
            have rf0 := rf 0
            have rf1 := rf 1
            have rf2 := rf 2
            obtain ⟨s0, s1, s2⟩ := set_three r0 r1 r2
            clear rf df
            go_wp2
            refine bodyPost_ret ?_ rfl (ST.ret T.out (by omega) _ _ _)
            simp [results, Try.results119, go_sem, s0, s1, s2]
          · skip
            obtain ⟨d0, d1, d2, df, dl⟩ := T.out.2.2.1
            obtain ⟨r0, r1, r2, rf, rl⟩ := T.out.2.2.2.1
            have rf0 := rf 0
            have rf1 := rf 1
            have rf2 := rf 2
            obtain ⟨s0, s1, s2⟩ := set_three r0 r1 r2
            clear rf df
            go_wp2
            refine bodyPost_ret ?_ rfl (ST.ret T.out (by omega) _ _ _)
            simp [results, Try.results119, go_sem, s0, s1, s2]
    · have T := Lib.hid (T.out.set0 ((c + 2) / 4))
      go_wp2_with fail
      refine (srcPick_any g B _ c _ T.out.1 (by omega) (by omega)).mono ?_
      rintro e w8 ⟨s, s1', s2', rfl, S8, K8⟩
      have T := Lib.hid (T.out.keep S8 K8)
      clear c0 c1 c2 f0 f1 f2 cl hz
      obtain ⟨c0, c1, c2, cf, cl⟩ := T.out.2.2.1
      have f0 := cf 0
      have f1 := cf 1
      have f2 := cf 2
      have hz := Nat.lt_of_lt_of_le T.out.2.2.2.2.2 T.out.2.1.2.1
      clear cf
      have T := Lib.hid (T.out.set2 s)
      go_wp2_with fail
      clear c0 c1 c2 f0 f1 f2 cl hz
      refine (srcPick_any g B _ 20 _ T.out.1 (by omega) (by omega)).mono ?_
      rintro e w9 ⟨k, k1, k2, rfl, S9, K9⟩
      have T := Lib.hid (T.out.keep S9 K9)
      obtain ⟨c0, c1, c2, cf, cl⟩ := T.out.2.2.1
      have f0 := cf 0
      have f1 := cf 1
      have f2 := cf 2
      have hz := Nat.lt_of_lt_of_le T.out.2.2.2.2.2 T.out.2.1.2.1
      clear cf
      by_cases e0 : k = 0
      · go_wp2_with fail
        refine (srcAmong_any g B _ _ _ [0, 1, 1000, 1001, -9223372036854775808] _ (T.out.alloc _).1 (by omega) (rd_lit _ _ _ _ rfl) (fun b o e => by injection e with e; injection e; omega) (by simp) (by simp)).mono ?_
        rintro e w10 ⟨c, hcm, rfl, S10, K10⟩
        have T := Lib.hid ((T.out.alloc _).keep S10 K10)
        clear c0 c1 c2 f0 f1 f2 cl hz
        obtain ⟨c0, c1, c2, cf, cl⟩ := T.out.2.2.1
        have f0 := cf 0
        have f1 := cf 1
        have f2 := cf 2
        have hz := Nat.lt_of_lt_of_le T.out.2.2.2.2.2 T.out.2.1.2.1
        clear cf
        have T := Lib.hid (T.out.set1 c)
        obtain ⟨d0, d1, d2, df, dl⟩ := T.out.2.2.1
        obtain ⟨r0, r1, r2, rf, rl⟩ := T.out.2.2.2.1
        have rf0 := rf 0
        have rf1 := rf 1
        have rf2 := rf 2
        obtain ⟨s0, s1, s2⟩ := set_three r0 r1 r2
        clear rf df
        go_wp2
        refine bodyPost_ret ?_ rfl (ST.ret T.out (by omega) _ _ _)
        simp [results, Try.results119, go_sem, s0, s1, s2]
      · by_cases e1 : k = 1
        · go_wp2_with fail
          refine (srcAmong_any g B _ _ _ [-1, 0, c, c + 1] _ (T.out.alloc _).1 (by omega) (rd_lit _ _ _ _ rfl) (fun b o e => by injection e with e; injection e; omega) (by simp) (by simp)).mono ?_
          rintro e w10 ⟨l, hcm, rfl, S10, K10⟩
          have T := Lib.hid ((T.out.alloc _).keep S10 K10)
          clear c0 c1 c2 f0 f1 f2 cl hz
          obtain ⟨c0, c1, c2, cf, cl⟩ := T.out.2.2.1
          have f0 := cf 0
          have f1 := cf 1
          have f2 := cf 2
          have hz := Nat.lt_of_lt_of_le T.out.2.2.2.2.2 T.out.2.1.2.1
          clear cf
          have T := Lib.hid (T.out.set0 l)
          obtain ⟨d0, d1, d2, df, dl⟩ := T.out.2.2.1
          obtain ⟨r0, r1, r2, rf, rl⟩ := T.out.2.2.2.1
          have rf0 := rf 0
          have rf1 := rf 1
          have rf2 := rf 2
          obtain ⟨s0, s1, s2⟩ := set_three r0 r1 r2
          clear rf df
          go_wp2
          refine bodyPost_ret ?_ rfl (ST.ret T.out (by omega) _ _ _)
          simp [results, Try.results119, go_sem, s0, s1, s2]
        · by_cases e2 : k = 2
          · go_wp2_with fail
            refine (srcAmong_any g B _ _ _ [-1, 0, c] _ (T.out.alloc _).1 (by omega) (rd_lit _ _ _ _ rfl) (fun b o e => by injection e with e; injection e; omega) (by simp) (by simp)).mono ?_
            rintro e w10 ⟨s, hcm, rfl, S10, K10⟩
            have T := Lib.hid ((T.out.alloc _).keep S10 K10)
            clear c0 c1 c2 f0 f1 f2 cl hz
            obtain ⟨c0, c1, c2, cf, cl⟩ := T.out.2.2.1
            have f0 := cf 0
            have f1 := cf 1
            have f2 := cf 2
            have hz := Nat.lt_of_lt_of_le T.out.2.2.2.2.2 T.out.2.1.2.1
            clear cf
            have T := Lib.hid (T.out.set2 s)
            obtain ⟨d0, d1, d2, df, dl⟩ := T.out.2.2.1
            obtain ⟨r0, r1, r2, rf, rl⟩ := T.out.2.2.2.1
            have rf0 := rf 0
            have rf1 := rf 1
            have rf2 := rf 2
            obtain ⟨s0, s1, s2⟩ := set_three r0 r1 r2
            clear rf df
            go_wp2
            refine bodyPost_ret ?_ rfl (ST.ret T.out (by omega) _ _ _)
            simp [results, Try.results119, go_sem, s0, s1, s2]
          · skip
            obtain ⟨d0, d1, d2, df, dl⟩ := T.out.2.2.1
            obtain ⟨r0, r1, r2, rf, rl⟩ := T.out.2.2.2.1
            have rf0 := rf 0
            have rf1 := rf 1
            have rf2 := rf 2
            obtain ⟨s0, s1, s2⟩ := set_three r0 r1 r2
            clear rf df
            go_wp2
            refine bodyPost_ret ?_ rfl (ST.ret T.out (by omega) _ _ _)
            simp [results, Try.results119, go_sem, s0, s1, s2]
end Go.Proofs.Ytdjnblkgeaphmaa
