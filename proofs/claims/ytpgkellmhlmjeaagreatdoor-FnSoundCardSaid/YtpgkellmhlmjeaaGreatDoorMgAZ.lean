/- The draw of a certificate: the walk. No condition but those that each theorem names. -/
import Derived.Test.YtpgkellmhlmjeaaGreatDoorMgAX
import Derived.Test.YtpgkellmhlmjeaaGreatDoorMgAY
import Derived.Deep.RegionHeld3
import Derived.Deep.RegionLaw
namespace Go.Proofs.YtpgkellmhlmjeaaGreatDoor
open Go.RowKit Go.Sort
/-- What a draw of a certificate returns: it has numbers, not too many. -/
def RetCd (g B N : Nat) (w : World) (e : Ending) (w' : World) : Prop := ∃ (k : Int) (xs : List Int) (A : Option Addr) (c : Nat), e = .returned (certV k A xs.length c) ∧ Wr (Value.int .i64) w' w.heap.size A xs ∧ (1 ≤ xs.length ∧ xs.length ≤ 405) ∧ (xs.length ≤ c ∧ c ≤ maxLen) ∧ Src g B N w' ∧ Keep g w w'
/-- The state: the source, the result's block, the certificate's block. -/
structure CtS (g B N : Nat) (w : World) (k : Int) (v : Value) (W : World) : Prop where
  src : Src g B N W
  kp : Keep g w W
  r : BoxV w.heap.size [.int .i64 0, .slice none 0 0] W
  c : BoxV (w.heap.size + 1) [.int .i64 k, v] W
  lt : g < w.heap.size
theorem SmF.of {a b : Int} (h : fracOk a b = true ∧ -2000 ≤ a ∧ a ≤ 2000 ∧ b ≤ 2000) : SmF a b := by
  obtain ⟨h1, h2, h3, h4⟩ := h
  obtain ⟨k1, k2, k3, k4, k5⟩ := fracOk_true.1 h1
  exact ⟨h2, h3, k1, h4, k5⟩
theorem BoxV.kept {g h : Nat} {vs : List Value} {W W' : World} (b : BoxV h vs W) (k : Keep g W W') (hg : h ≠ g) : BoxV h vs W' :=
  ⟨fun j v hv => (k.cell hg b.lt).trans (b.c j v hv), fun j => (k.frozen hg b.lt).trans (b.f j), Nat.lt_of_lt_of_le b.lt k.2.1⟩
section
variable {g B N : Nat} {w : World} {k : Int} {v : Value} {W W' : World}
theorem CtS.start (h : Src g B N w) (T : TypeId) : CtS g B N w 0 (.slice none 0 0) ((w.alloc (.cells #[.int .i64 0, .slice none 0 0] T)).alloc (.cells #[.int .i64 0, .slice none 0 0] T)) := by
  have hlt := h.lt
  refine ⟨h.next (ext_alloc (ext1 _ _) _), Keep.of (ext_alloc (ext1 _ _) _) hlt, (BoxV.new w #[.int .i64 0, .slice none 0 0] T).alloc _, ?_, hlt⟩
  have := BoxV.new (w.alloc (.cells #[.int .i64 0, .slice none 0 0] T)) #[.int .i64 0, .slice none 0 0] T
  simpa using this
theorem CtS.keep {M : Nat} (t : CtS g B N w k v W) (hs : Src g B M W') (kk : Keep g W W') : CtS g B M w k v W' := by
  have := t.lt
  exact ⟨hs, t.kp.trans kk, t.r.kept kk (by omega), t.c.kept kk (by omega), t.lt⟩
theorem CtS.next (t : CtS g B N w k v W) (hb : Below W.heap.size W W') : CtS g B N w k v W' :=
  t.keep (t.src.next hb) (Keep.of hb t.src.lt)
theorem CtS.set (t : CtS g B N w k v W) (k' : Int) (v' : Value) : CtS g B N w k' v' ((W.setCell ⟨w.heap.size + 1, 0, none⟩ (.int .i64 k')).setCell ⟨w.heap.size + 1, 1, none⟩ v') := by
  have h0 := t.lt
  exact ⟨(t.src.setOther (by omega) _ _).setOther (by omega) _ _, (t.kp.setOther h0 (by omega) _ _).setOther h0 (by omega) _ _, (t.r.setFar _ (by omega)).setFar _ (by omega), (t.c.set 0 (.int .i64 k') (by simp)).set 1 v' (by simp), h0⟩
theorem CtS.size (t : CtS g B N w k v W) : w.heap.size + 2 ≤ W.heap.size := by have := t.c.lt; omega
theorem CtS.ret {M : Nat} {xs : List Int} {A : Option Addr} {c : Nat} {k0 : Int} {v0 : Value} (t : CtS g B N w k0 v0 W) (hw : Wr (Value.int .i64) W (w.heap.size + 2) A xs) (hl : 1 ≤ xs.length ∧ xs.length ≤ 405) (hcp : xs.length ≤ c ∧ c ≤ maxLen) (hM : N ≤ M) (x y : Value) :
    RetCd g B M w (.returned (certV k A xs.length c)) ((W.setCell ⟨w.heap.size, 0, none⟩ x).setCell ⟨w.heap.size, 1, none⟩ y) :=
  ⟨k, xs, A, c, rfl, ((hw.setLow (by simp) x).setLow (by simp) y).more (by omega), hl, hcp, ((t.src.setOther t.lt _ _).setOther t.lt _ _).more hM, (t.kp.setOther t.lt (Nat.le_refl _) _ _).setOther t.lt (Nat.le_refl _) _ _⟩
theorem Wr.set1 {A : Option Addr} {xs : List Int} {b : Nat} (hw : Wr (Value.int .i64) W b A xs) {i : Nat} (hi : i < b) (x y : Value) : Wr (Value.int .i64) ((W.setCell ⟨i, 0, none⟩ x).setCell ⟨i, 1, none⟩ y) b A xs :=
  (hw.setLow (by simpa using hi) x).setLow (by simpa using hi) y
end
set_option maxRecDepth 100000 in
set_option maxHeartbeats 8000000 in
theorem l26Draw_any (g B N : Nat) (w : World) (h : Src g B N w) (hN : N ≤ 600000) :
    Calls Tryz.prog 66 #[.pointer (some ⟨g, 0, none⟩)] w (RetCd g B (N + 200) w) := by
  have T := Lib.hid (CtS.start h 26)
  clear h
  go_enter Tryz.func66, Tryz.ntmps66
  go_wp2_with fail
  generalize (w.alloc (.cells #[.int .i64 0, .slice none 0 0] 26)).alloc (.cells #[.int .i64 0, .slice none 0 0] 26) = W0 at *
  refine (srcPick_any g B N 6 _ T.out.src (by omega) (by omega)).mono ?_
  rintro e w1 ⟨z, z1, z2, rfl, S1, K1⟩
  have T := Lib.hid (T.out.keep S1 K1)
  clear S1 K1
  have hz : z = 0 ∨ z = 1 ∨ z = 2 ∨ z = 3 ∨ z = 4 ∨ z = 5 := by omega
  rcases hz with rfl | rfl | rfl | rfl | rfl | rfl
  · go_wp2_with fail
    refine (srcPick_any g B _ 400 _ T.out.src (by omega) (by omega)).mono ?_
    rintro e w2 ⟨a, a1, a2, rfl, S1, K1⟩
    have T := Lib.hid (T.out.keep S1 K1)
    clear S1 K1
    go_wp2_with fail
    refine (srcPick_any g B _ 401 _ T.out.src (by omega) (by omega)).mono ?_
    rintro e w3 ⟨b, b1, b2, rfl, S1, K1⟩
    have T := Lib.hid (T.out.keep S1 K1)
    clear S1 K1
    go_wp2_with fail
    refine (sProveGcd_any _ _ _).mono ?_
    have hpk := pk_gcd (a + 1) (b - 200)
    generalize pgK (a + 1) (b - 200) = k at *
    generalize pgX (a + 1) (b - 200) = xs at *
    rintro e w4 ⟨A, c, rfl, HW0, hcp, hb⟩
    have HW : Hid (Wr (Value.int .i64) ((w4.setCell ⟨w.heap.size + 1, 0, none⟩ (.int .i64 k)).setCell ⟨w.heap.size + 1, 1, none⟩ (.slice A xs.length c)) (w.heap.size + 2) A xs) := (HW0.more T.out.size).set1 (i := w.heap.size + 1) (by omega) (.int .i64 k) (.slice A xs.length c)
    have T4 := Lib.hid (T.out.next hb)
    have c0 := T4.out.c.at 0 _ rfl
    have c1 := T4.out.c.at 1 _ rfl
    have d0 := T4.out.c.f 0
    have d1 := T4.out.c.f 1
    have T := Lib.hid (T4.out.set k (.slice A xs.length c))
    go_upto_region 28 with fail
    generalize (w4.setCell ⟨w.heap.size + 1, 0, none⟩ (.int .i64 k)).setCell ⟨w.heap.size + 1, 1, none⟩ (.slice A xs.length c) = W5 at *
    clear HW0 hb c0 c1 d0 d1 T4
    have c0 := T.out.c.at 0 _ rfl
    have c1 := T.out.c.at 1 _ rfl
    have d0 := T.out.c.f 0
    have d1 := T.out.c.f 1
    rcases hpk with rfl | ⟨hk, hlen⟩
    · go_wp2_with fail
      clear HW
      refine (srcPick_any g B _ 2 _ T.out.src (by omega) (by omega)).mono ?_
      rintro e w7 ⟨y, y1, y2, rfl, S1, K1⟩
      have T := Lib.hid (T.out.keep S1 K1)
      clear S1 K1 c0 c1 d0 d1
      obtain ⟨xs, HR, hlen⟩ := root_draw y y1 (by omega)
      go_wp2_with fail
      refine (HR.out _).mono ?_
      rintro e w8 ⟨A, c, rfl, HW0, hcp, hb⟩
      have HW : Hid (Wr (Value.int .i64) ((w8.setCell ⟨w.heap.size + 1, 0, none⟩ (.int .i64 2)).setCell ⟨w.heap.size + 1, 1, none⟩ (.slice A xs.length c)) (w.heap.size + 2) A xs) := (HW0.more T.out.size).set1 (i := w.heap.size + 1) (by omega) (.int .i64 2) (.slice A xs.length c)
      have T8 := Lib.hid (T.out.next hb)
      have c0 := T8.out.c.at 0 _ rfl
      have c1 := T8.out.c.at 1 _ rfl
      have d0 := T8.out.c.f 0
      have d1 := T8.out.c.f 1
      have T := Lib.hid (T8.out.set 2 (.slice A xs.length c))
      go_upto_region 30 with fail
      generalize (w8.setCell ⟨w.heap.size + 1, 0, none⟩ (.int .i64 2)).setCell ⟨w.heap.size + 1, 1, none⟩ (.slice A xs.length c) = W9 at *
      clear HR HW0 hb c0 c1 d0 d1 T8
      have c0 := T.out.c.at 0 _ rfl
      have c1 := T.out.c.at 1 _ rfl
      have d0 := T.out.c.f 0
      have d1 := T.out.c.f 1
      have r0 := T.out.r.at 0 _ rfl
      have r1 := T.out.r.at 1 _ rfl
      have rf0 := T.out.r.f 0
      have rf1 := T.out.r.f 1
      obtain ⟨s0, s1⟩ := set_two r0 r1
      go_wp2
      refine bodyPost_ret ?_ rfl (CtS.ret (k := 2) (c := c) T.out HW.out hlen hcp (by omega) _ _)
      simp [results, Tryz.results66, go_sem, s0, s1]
    · have hk' : (k == 0) = false := by simpa using hk
      have r0 := T.out.r.at 0 _ rfl
      have r1 := T.out.r.at 1 _ rfl
      have rf0 := T.out.r.f 0
      have rf1 := T.out.r.f 1
      obtain ⟨s0, s1⟩ := set_two r0 r1
      go_wp2
      refine bodyPost_ret ?_ rfl (CtS.ret (k := k) (c := c) T.out HW.out hlen hcp (by omega) _ _)
      simp [results, Tryz.results66, go_sem, s0, s1]
  · go_wp2_with fail
    refine (l07DrawD_any g B _ _ T.out.src (by omega)).mono ?_
    rintro e w2 ⟨d, d1, d2, rfl, S1, K1⟩
    have T := Lib.hid (T.out.keep S1 K1)
    clear S1 K1
    go_wp2_with fail
    refine (sProveRoot_any _ _).mono ?_
    have hpk := pk_root d
    generalize prK d = k at *
    generalize prX d = xs at *
    clear d1 d2
    rintro e w4 ⟨A, c, rfl, HW0, hcp, hb⟩
    have HW : Hid (Wr (Value.int .i64) ((w4.setCell ⟨w.heap.size + 1, 0, none⟩ (.int .i64 k)).setCell ⟨w.heap.size + 1, 1, none⟩ (.slice A xs.length c)) (w.heap.size + 2) A xs) := (HW0.more T.out.size).set1 (i := w.heap.size + 1) (by omega) (.int .i64 k) (.slice A xs.length c)
    have T4 := Lib.hid (T.out.next hb)
    have c0 := T4.out.c.at 0 _ rfl
    have c1 := T4.out.c.at 1 _ rfl
    have d0 := T4.out.c.f 0
    have d1 := T4.out.c.f 1
    have T := Lib.hid (T4.out.set k (.slice A xs.length c))
    go_upto_region 28 with fail
    generalize (w4.setCell ⟨w.heap.size + 1, 0, none⟩ (.int .i64 k)).setCell ⟨w.heap.size + 1, 1, none⟩ (.slice A xs.length c) = W5 at *
    clear HW0 hb c0 c1 d0 d1 T4
    have c0 := T.out.c.at 0 _ rfl
    have c1 := T.out.c.at 1 _ rfl
    have d0 := T.out.c.f 0
    have d1 := T.out.c.f 1
    rcases hpk with rfl | ⟨hk, hlen⟩
    · go_wp2_with fail
      clear HW
      refine (srcPick_any g B _ 2 _ T.out.src (by omega) (by omega)).mono ?_
      rintro e w7 ⟨y, y1, y2, rfl, S1, K1⟩
      have T := Lib.hid (T.out.keep S1 K1)
      clear S1 K1 c0 c1 d0 d1
      obtain ⟨xs, HR, hlen⟩ := root_draw y y1 (by omega)
      go_wp2_with fail
      refine (HR.out _).mono ?_
      rintro e w8 ⟨A, c, rfl, HW0, hcp, hb⟩
      have HW : Hid (Wr (Value.int .i64) ((w8.setCell ⟨w.heap.size + 1, 0, none⟩ (.int .i64 2)).setCell ⟨w.heap.size + 1, 1, none⟩ (.slice A xs.length c)) (w.heap.size + 2) A xs) := (HW0.more T.out.size).set1 (i := w.heap.size + 1) (by omega) (.int .i64 2) (.slice A xs.length c)
      have T8 := Lib.hid (T.out.next hb)
      have c0 := T8.out.c.at 0 _ rfl
      have c1 := T8.out.c.at 1 _ rfl
      have d0 := T8.out.c.f 0
      have d1 := T8.out.c.f 1
      have T := Lib.hid (T8.out.set 2 (.slice A xs.length c))
      go_upto_region 30 with fail
      generalize (w8.setCell ⟨w.heap.size + 1, 0, none⟩ (.int .i64 2)).setCell ⟨w.heap.size + 1, 1, none⟩ (.slice A xs.length c) = W9 at *
      clear HR HW0 hb c0 c1 d0 d1 T8
      have c0 := T.out.c.at 0 _ rfl
      have c1 := T.out.c.at 1 _ rfl
      have d0 := T.out.c.f 0
      have d1 := T.out.c.f 1
      have r0 := T.out.r.at 0 _ rfl
      have r1 := T.out.r.at 1 _ rfl
      have rf0 := T.out.r.f 0
      have rf1 := T.out.r.f 1
      obtain ⟨s0, s1⟩ := set_two r0 r1
      go_wp2
      refine bodyPost_ret ?_ rfl (CtS.ret (k := 2) (c := c) T.out HW.out hlen hcp (by omega) _ _)
      simp [results, Tryz.results66, go_sem, s0, s1]
    · have hk' : (k == 0) = false := by simpa using hk
      have r0 := T.out.r.at 0 _ rfl
      have r1 := T.out.r.at 1 _ rfl
      have rf0 := T.out.r.f 0
      have rf1 := T.out.r.f 1
      obtain ⟨s0, s1⟩ := set_two r0 r1
      go_wp2
      refine bodyPost_ret ?_ rfl (CtS.ret (k := k) (c := c) T.out HW.out hlen hcp (by omega) _ _)
      simp [results, Tryz.results66, go_sem, s0, s1]
  · go_wp2_with fail
    refine (srcPick_any g B _ 9 _ T.out.src (by omega) (by omega)).mono ?_
    rintro e w2 ⟨x, x1, x2, rfl, S1, K1⟩
    have T := Lib.hid (T.out.keep S1 K1)
    clear S1 K1
    go_wp2_with fail
    refine (srcPick_any g B _ 30 _ T.out.src (by omega) (by omega)).mono ?_
    rintro e w3 ⟨y, y1, y2, rfl, S1, K1⟩
    have T := Lib.hid (T.out.keep S1 K1)
    clear S1 K1
    obtain ⟨u1, u2⟩ := mul_rngD (x := 2 + x) (y := y) (M := 10) (K := 29) (by omega) (by omega) (by omega) (by omega)
    generalize hA : (2 + x) * y = a at *
    go_wp2_with fail
    refine (srcPick_any g B _ 30 _ T.out.src (by omega) (by omega)).mono ?_
    rintro e w5 ⟨z, z1, z2, rfl, S1, K1⟩
    have T := Lib.hid (T.out.keep S1 K1)
    clear S1 K1
    obtain ⟨v1, v2⟩ := mul_rngD (x := 2 + x) (y := 1 + z) (M := 10) (K := 30) (by omega) (by omega) (by omega) (by omega)
    generalize hB : (2 + x) * (1 + z) = b at *
    go_wp2_with fail
    refine (srcPick_any g B _ 9 _ T.out.src (by omega) (by omega)).mono ?_
    rintro e w6 ⟨u, u1', u2', rfl, S1, K1⟩
    have T := Lib.hid (T.out.keep S1 K1)
    clear S1 K1
    obtain ⟨v3, v4⟩ := mul_rngD (x := 2 + x) (y := u) (M := 10) (K := 8) (by omega) (by omega) (by omega) (by omega)
    generalize hC : (2 + x) * u = h at *
    go_wp2_with fail
    refine (sProveLinear_any _ _ _ _).mono ?_
    have hpk := pk_lin a b (h + 1)
    generalize linK a b (h + 1) = k at *
    generalize linX a b (h + 1) = xs at *
    rintro e w4 ⟨A, c, rfl, HW0, hcp, hb⟩
    have HW : Hid (Wr (Value.int .i64) ((w4.setCell ⟨w.heap.size + 1, 0, none⟩ (.int .i64 k)).setCell ⟨w.heap.size + 1, 1, none⟩ (.slice A xs.length c)) (w.heap.size + 2) A xs) := (HW0.more T.out.size).set1 (i := w.heap.size + 1) (by omega) (.int .i64 k) (.slice A xs.length c)
    have T4 := Lib.hid (T.out.next hb)
    have c0 := T4.out.c.at 0 _ rfl
    have c1 := T4.out.c.at 1 _ rfl
    have d0 := T4.out.c.f 0
    have d1 := T4.out.c.f 1
    have T := Lib.hid (T4.out.set k (.slice A xs.length c))
    go_upto_region 28 with fail
    generalize (w4.setCell ⟨w.heap.size + 1, 0, none⟩ (.int .i64 k)).setCell ⟨w.heap.size + 1, 1, none⟩ (.slice A xs.length c) = W5 at *
    clear HW0 hb c0 c1 d0 d1 T4
    have c0 := T.out.c.at 0 _ rfl
    have c1 := T.out.c.at 1 _ rfl
    have d0 := T.out.c.f 0
    have d1 := T.out.c.f 1
    rcases hpk with rfl | ⟨hk, hlen⟩
    · go_wp2_with fail
      clear HW
      refine (srcPick_any g B _ 2 _ T.out.src (by omega) (by omega)).mono ?_
      rintro e w7 ⟨y, y1, y2, rfl, S1, K1⟩
      have T := Lib.hid (T.out.keep S1 K1)
      clear S1 K1 c0 c1 d0 d1
      obtain ⟨xs, HR, hlen⟩ := root_draw y y1 (by omega)
      go_wp2_with fail
      refine (HR.out _).mono ?_
      rintro e w8 ⟨A, c, rfl, HW0, hcp, hb⟩
      have HW : Hid (Wr (Value.int .i64) ((w8.setCell ⟨w.heap.size + 1, 0, none⟩ (.int .i64 2)).setCell ⟨w.heap.size + 1, 1, none⟩ (.slice A xs.length c)) (w.heap.size + 2) A xs) := (HW0.more T.out.size).set1 (i := w.heap.size + 1) (by omega) (.int .i64 2) (.slice A xs.length c)
      have T8 := Lib.hid (T.out.next hb)
      have c0 := T8.out.c.at 0 _ rfl
      have c1 := T8.out.c.at 1 _ rfl
      have d0 := T8.out.c.f 0
      have d1 := T8.out.c.f 1
      have T := Lib.hid (T8.out.set 2 (.slice A xs.length c))
      go_upto_region 30 with fail
      generalize (w8.setCell ⟨w.heap.size + 1, 0, none⟩ (.int .i64 2)).setCell ⟨w.heap.size + 1, 1, none⟩ (.slice A xs.length c) = W9 at *
      clear HR HW0 hb c0 c1 d0 d1 T8
      have c0 := T.out.c.at 0 _ rfl
      have c1 := T.out.c.at 1 _ rfl
      have d0 := T.out.c.f 0
      have d1 := T.out.c.f 1
      have r0 := T.out.r.at 0 _ rfl
      have r1 := T.out.r.at 1 _ rfl
      have rf0 := T.out.r.f 0
      have rf1 := T.out.r.f 1
      obtain ⟨s0, s1⟩ := set_two r0 r1
      go_wp2
      refine bodyPost_ret ?_ rfl (CtS.ret (k := 2) (c := c) T.out HW.out hlen hcp (by omega) _ _)
      simp [results, Tryz.results66, go_sem, s0, s1]
    · have hk' : (k == 0) = false := by simpa using hk
      have r0 := T.out.r.at 0 _ rfl
      have r1 := T.out.r.at 1 _ rfl
      have rf0 := T.out.r.f 0
      have rf1 := T.out.r.f 1
      obtain ⟨s0, s1⟩ := set_two r0 r1
      go_wp2
      refine bodyPost_ret ?_ rfl (CtS.ret (k := k) (c := c) T.out HW.out hlen hcp (by omega) _ _)
      simp [results, Tryz.results66, go_sem, s0, s1]
  · go_wp2_with fail
    refine (l07DrawD_any g B _ _ T.out.src (by omega)).mono ?_
    rintro e w2 ⟨d, d1, d2, rfl, S1, K1⟩
    have T := Lib.hid (T.out.keep S1 K1)
    clear S1 K1
    go_wp2_with fail
    refine (sProveUnit_any _ _).mono ?_
    have hpk := pk_unit d
    generalize puK d = k at *
    generalize puX d = xs at *
    generalize utC d = code at *
    clear d1 d2
    rintro e w4 ⟨A, c, rfl, HW0, hcp, hb⟩
    have HW : Hid (Wr (Value.int .i64) (w4.alloc (.cells #[.int .i64 k, .slice A xs.length c] 26)) (w.heap.size + 2) A xs) := (HW0.more T.out.size).below (ext1 _ _)
    have X := Lib.hid (BoxV.new w4 #[.int .i64 k, .slice A xs.length c] 26)
    have T := Lib.hid ((T.out.next hb).next (ext1 _ (.cells #[.int .i64 k, .slice A xs.length c] 26)))
    clear HW0 hb
    by_cases hc : code = 0
    · subst hc
      have hlen := hpk rfl
      clear hpk
      have r0 := T.out.r.at 0 _ rfl
      have r1 := T.out.r.at 1 _ rfl
      have rf0 := T.out.r.f 0
      have rf1 := T.out.r.f 1
      obtain ⟨s0, s1⟩ := set_two r0 r1
      go_wp2
      refine bodyPost_ret ?_ rfl (CtS.ret (k := k) (c := c) T.out HW.out hlen hcp (by omega) _ _)
      simp [results, Tryz.results66, go_sem, s0, s1]
    · have hc' : (code == 0) = false := by simpa using hc
      clear HW hpk hc
      have c0 := T.out.c.at 0 _ rfl
      have c1 := T.out.c.at 1 _ rfl
      have d0 := T.out.c.f 0
      have d1 := T.out.c.f 1
      go_wp2_with fail
      refine (srcPick_any g B _ 2 _ T.out.src (by omega) (by omega)).mono ?_
      rintro e w7 ⟨y, y1, y2, rfl, S1, K1⟩
      have T := Lib.hid (T.out.keep S1 K1)
      clear S1 K1 c0 c1 d0 d1
      obtain ⟨xs, HR, hlen⟩ := root_draw y y1 (by omega)
      go_wp2_with fail
      refine (HR.out _).mono ?_
      rintro e w8 ⟨A, c, rfl, HW0, hcp, hb⟩
      have HW : Hid (Wr (Value.int .i64) ((w8.setCell ⟨w.heap.size + 1, 0, none⟩ (.int .i64 2)).setCell ⟨w.heap.size + 1, 1, none⟩ (.slice A xs.length c)) (w.heap.size + 2) A xs) := (HW0.more T.out.size).set1 (i := w.heap.size + 1) (by omega) (.int .i64 2) (.slice A xs.length c)
      have T8 := Lib.hid (T.out.next hb)
      have c0 := T8.out.c.at 0 _ rfl
      have c1 := T8.out.c.at 1 _ rfl
      have d0 := T8.out.c.f 0
      have d1 := T8.out.c.f 1
      have T := Lib.hid (T8.out.set 2 (.slice A xs.length c))
      go_upto_region 30 with fail
      generalize (w8.setCell ⟨w.heap.size + 1, 0, none⟩ (.int .i64 2)).setCell ⟨w.heap.size + 1, 1, none⟩ (.slice A xs.length c) = W9 at *
      clear HR HW0 hb c0 c1 d0 d1 T8
      have c0 := T.out.c.at 0 _ rfl
      have c1 := T.out.c.at 1 _ rfl
      have d0 := T.out.c.f 0
      have d1 := T.out.c.f 1
      have r0 := T.out.r.at 0 _ rfl
      have r1 := T.out.r.at 1 _ rfl
      have rf0 := T.out.r.f 0
      have rf1 := T.out.r.f 1
      obtain ⟨s0, s1⟩ := set_two r0 r1
      go_wp2
      refine bodyPost_ret ?_ rfl (CtS.ret (k := 2) (c := c) T.out HW.out hlen hcp (by omega) _ _)
      simp [results, Tryz.results66, go_sem, s0, s1]
  · go_wp2_with fail
    refine (l07Draw_any g B _ _ T.out.src (by omega)).mono ?_
    rintro e w2 ⟨p, d, q, rfl, S1, K1⟩
    have T := Lib.hid (T.out.keep S1 K1)
    clear S1 K1
    go_wp2_with fail
    refine (sProvePeriod_any _ _ _ _).mono ?_
    have hpk := pk_period (p, d, q)
    generalize ppK (p, d, q) = k at *
    generalize ppX (p, d, q) = xs at *
    generalize pdC (p, d, q) = code at *
    rintro e w4 ⟨A, c, rfl, HW0, hcp, hb⟩
    have HW : Hid (Wr (Value.int .i64) (w4.alloc (.cells #[.int .i64 k, .slice A xs.length c] 26)) (w.heap.size + 2) A xs) := (HW0.more T.out.size).below (ext1 _ _)
    have X := Lib.hid (BoxV.new w4 #[.int .i64 k, .slice A xs.length c] 26)
    have T := Lib.hid ((T.out.next hb).next (ext1 _ (.cells #[.int .i64 k, .slice A xs.length c] 26)))
    clear HW0 hb
    by_cases hc : code = 0
    · subst hc
      have hlen := hpk rfl
      clear hpk
      have r0 := T.out.r.at 0 _ rfl
      have r1 := T.out.r.at 1 _ rfl
      have rf0 := T.out.r.f 0
      have rf1 := T.out.r.f 1
      obtain ⟨s0, s1⟩ := set_two r0 r1
      go_wp2
      refine bodyPost_ret ?_ rfl (CtS.ret (k := k) (c := c) T.out HW.out hlen hcp (by omega) _ _)
      simp [results, Tryz.results66, go_sem, s0, s1]
    · have hc' : (code == 0) = false := by simpa using hc
      clear HW hpk hc
      have c0 := T.out.c.at 0 _ rfl
      have c1 := T.out.c.at 1 _ rfl
      have d0 := T.out.c.f 0
      have d1 := T.out.c.f 1
      go_wp2_with fail
      refine (srcPick_any g B _ 2 _ T.out.src (by omega) (by omega)).mono ?_
      rintro e w7 ⟨y, y1, y2, rfl, S1, K1⟩
      have T := Lib.hid (T.out.keep S1 K1)
      clear S1 K1 c0 c1 d0 d1
      obtain ⟨xs, HR, hlen⟩ := root_draw y y1 (by omega)
      go_wp2_with fail
      refine (HR.out _).mono ?_
      rintro e w8 ⟨A, c, rfl, HW0, hcp, hb⟩
      have HW : Hid (Wr (Value.int .i64) ((w8.setCell ⟨w.heap.size + 1, 0, none⟩ (.int .i64 2)).setCell ⟨w.heap.size + 1, 1, none⟩ (.slice A xs.length c)) (w.heap.size + 2) A xs) := (HW0.more T.out.size).set1 (i := w.heap.size + 1) (by omega) (.int .i64 2) (.slice A xs.length c)
      have T8 := Lib.hid (T.out.next hb)
      have c0 := T8.out.c.at 0 _ rfl
      have c1 := T8.out.c.at 1 _ rfl
      have d0 := T8.out.c.f 0
      have d1 := T8.out.c.f 1
      have T := Lib.hid (T8.out.set 2 (.slice A xs.length c))
      go_upto_region 30 with fail
      generalize (w8.setCell ⟨w.heap.size + 1, 0, none⟩ (.int .i64 2)).setCell ⟨w.heap.size + 1, 1, none⟩ (.slice A xs.length c) = W9 at *
      clear HR HW0 hb c0 c1 d0 d1 T8
      have c0 := T.out.c.at 0 _ rfl
      have c1 := T.out.c.at 1 _ rfl
      have d0 := T.out.c.f 0
      have d1 := T.out.c.f 1
      have r0 := T.out.r.at 0 _ rfl
      have r1 := T.out.r.at 1 _ rfl
      have rf0 := T.out.r.f 0
      have rf1 := T.out.r.f 1
      obtain ⟨s0, s1⟩ := set_two r0 r1
      go_wp2
      refine bodyPost_ret ?_ rfl (CtS.ret (k := 2) (c := c) T.out HW.out hlen hcp (by omega) _ _)
      simp [results, Tryz.results66, go_sem, s0, s1]
  · go_wp2_with fail
    refine (l18Draw_any g B _ _ T.out.src (by omega)).mono ?_
    rintro e w2 ⟨a, b, rfl, hok, S1, K1⟩
    have T := Lib.hid (T.out.keep S1 K1)
    clear S1 K1
    have SM := Lib.hid (SmF.of hok)
    clear hok
    have HLS : Hid (∀ (m : Int) (t : Bool) (W : World), 1 ≤ m → m ≤ 60 → Calls Tryz.prog 118 #[.agg #[.int .i64 a, .int .i64 b], .int .i64 m, .bool t] W fun e w' => ∃ (full : Bool) (v : Value), e = .returned (.tuple #[v, .bool (!full)]) ∧ LG W (W.heap.size + 1) (W.heap.size + 1 + 1) a b t full v w') := fun m t W h1 h2 => l18List_any a b m t W SM.out h1 h2
    have hgz : g < w2.heap.size := T.out.src.lt
    go_wp2_with fail
    have T := Lib.hid (T.out.next (ext1 w2 (.cells #[.int .i64 a, .int .i64 b] 41)))
    have F := Lib.hid (B2.new w2 a b 41)
    generalize w2.alloc (.cells #[.int .i64 a, .int .i64 b] 41) = W3 at *
    refine (srcPick_any g B _ 60 _ T.out.src (by omega) (by omega)).mono ?_
    rintro e w3 ⟨m, m1, m2, rfl, S1, K1⟩
    have T := Lib.hid (T.out.keep S1 K1)
    have F := Lib.hid (F.out.keep K1 (by omega))
    clear S1 K1
    obtain ⟨x0, x1, _, xl⟩ := F.out
    go_wp2_with fail
    go_region_held3 (fun w' => w'.cell? ⟨w2.heap.size, 0, none⟩ = some (.int .i64 a) ∧ w'.cell? ⟨w2.heap.size, 1, none⟩ = some (.int .i64 b))
      (first | exact ⟨x0, x1⟩ | exact ⟨F5.out.1, F5.out.2.1⟩ | exact ⟨F4.out.1, F4.out.2.1⟩)
      (first
        | (go_at_call 69; (with_reducible refine (srcOne_any g B _ 2 _ (T.out.src.next (ext_drew (Below.refl _ _))) (by omega) (by omega)).mono ?_); rintro e w4 ⟨t, rfl, S4, K4'⟩; have K4 : Keep g w3 w4 := (Keep.refl g w3).drew.trans K4'; have T4 := Lib.hid (T.out.keep S4 K4); have F4 := Lib.hid (F.out.keep K4 (by omega)); clear S4 K4')
        | (go_at_call 118; (with_reducible refine (HLS.out _ _ _ (by omega) (by omega)).mono ?_); rintro e w5 ⟨full, v, rfl, out, hlb, hol, hgood⟩; have T5 := Lib.hid (T4.out.next hlb.row.2.1); have F5 := Lib.hid (F4.out.next hlb.row.2.1)))
    all_goals
      obtain ⟨hn, A, cp, rfl, hrow⟩ := Wr.of_ownS hlb.row.1
      have HG := Lib.hid hgood
      have HROW := Lib.hid hrow
      have hg4 : g < w4.heap.size := T4.out.src.lt
      clear T F T4 F4 x0 x1 hgood hrow hn K4
      have T := Lib.hid T5.out
      clear T5
      cases full
      · by_cases h0 : out.length = 0
        · have i0 : ¬ (0 : Int) < (out.length : Int) := by omega
          have c0 := T.out.c.at 0 _ rfl
          have c1 := T.out.c.at 1 _ rfl
          have d0 := T.out.c.f 0
          have d1 := T.out.c.f 1
          go_wp2_with fail
          refine (srcPick_any g B _ 2 _ T.out.src (by omega) (by omega)).mono ?_
          rintro e w7 ⟨y, y1, y2, rfl, S1, K1⟩
          have T := Lib.hid (T.out.keep S1 K1)
          clear S1 K1 c0 c1 d0 d1
          obtain ⟨xs, HR, hlen⟩ := root_draw y y1 (by omega)
          go_wp2_with fail
          refine (HR.out _).mono ?_
          rintro e w8 ⟨A, c, rfl, HW0, hcp, hb⟩
          have HW : Hid (Wr (Value.int .i64) ((w8.setCell ⟨w.heap.size + 1, 0, none⟩ (.int .i64 2)).setCell ⟨w.heap.size + 1, 1, none⟩ (.slice A xs.length c)) (w.heap.size + 2) A xs) := (HW0.more T.out.size).set1 (i := w.heap.size + 1) (by omega) (.int .i64 2) (.slice A xs.length c)
          have T8 := Lib.hid (T.out.next hb)
          have c0 := T8.out.c.at 0 _ rfl
          have c1 := T8.out.c.at 1 _ rfl
          have d0 := T8.out.c.f 0
          have d1 := T8.out.c.f 1
          have T := Lib.hid (T8.out.set 2 (.slice A xs.length c))
          go_upto_region 30 with fail
          generalize (w8.setCell ⟨w.heap.size + 1, 0, none⟩ (.int .i64 2)).setCell ⟨w.heap.size + 1, 1, none⟩ (.slice A xs.length c) = W9 at *
          clear HR HW0 hb c0 c1 d0 d1 T8
          have c0 := T.out.c.at 0 _ rfl
          have c1 := T.out.c.at 1 _ rfl
          have d0 := T.out.c.f 0
          have d1 := T.out.c.f 1
          have r0 := T.out.r.at 0 _ rfl
          have r1 := T.out.r.at 1 _ rfl
          have rf0 := T.out.r.f 0
          have rf1 := T.out.r.f 1
          obtain ⟨s0, s1⟩ := set_two r0 r1
          go_wp2
          refine bodyPost_ret ?_ rfl (CtS.ret (k := 2) (c := c) T.out HW.out hlen hcp (by omega) _ _)
          simp [results, Tryz.results66, go_sem, s0, s1]
        · have i0 : (0 : Int) < (out.length : Int) := by omega
          obtain ⟨x0, x1, _, xl⟩ := F5.out
          obtain ⟨bb, off, rfl, hb1, hb2, hc, _⟩ := HROW.out (by rw [frL_length]; omega)
          have hbz := hlb.row.2.1.size
          have HPK : Hid (∀ k : Nat, k < out.length → ∀ V, Keep g w5 V → ∃ (p q : Int) (xs : List Int), V.cell? ⟨bb, off + k * 2, none⟩ = some (.int .i64 p) ∧ V.cell? ⟨bb, off + k * 2 + 1, none⟩ = some (.int .i64 q) ∧ Hid (∀ W, Calls Tryz.prog 119 #[.agg #[.int .i64 a, .int .i64 b], .agg #[.int .i64 p, .int .i64 q]] W (RetCertC W 6 xs 0)) ∧ Hid (1 ≤ xs.length ∧ xs.length ≤ 405)) := by
            intro k hk V hV
            obtain ⟨⟨p, q⟩, hpk⟩ : ∃ z, out[k]? = some z := ⟨_, List.getElem?_eq_getElem hk⟩
            obtain ⟨g0, g1⟩ := frL_get hpk
            obtain ⟨xs, hx1, hx2⟩ := best_draw SM.out (HG.out _ (List.mem_of_getElem? hpk))
            refine ⟨p, q, xs, (hV.cell (by omega) hb2).trans (hc _ _ g0), ?_, hx1, hx2⟩
            have c1 := hc _ _ g1
            rw [← Nat.add_assoc] at c1
            exact (hV.cell (by omega) hb2).trans c1
          clear hc
          have hcap : out.length ≤ 200 := hol
          clear hlb HROW HG
          go_wp2_with fail
          go_region_law
            (first
              | (go_simp; go_at_call 67; (with_reducible refine (srcPick_any g B _ (out.length : Int) _ (T.out.src.next (ext_drew (Below.refl _ _))) (by omega) (by omega)).mono ?_); rintro e w6 ⟨x, x1', x2', rfl, S6, K6'⟩; have K6 : Keep g w5 w6 := (Keep.refl g w5).drew.trans K6'; have T6 := Lib.hid (T.out.keep S6 K6); have F6 := Lib.hid (F5.out.keep K6 (by omega)); obtain ⟨i, rfl⟩ : ∃ i : Nat, x = (i : Int) := ⟨x.toNat, by omega⟩; obtain ⟨p, q, xs, y0, y1, HPB, hlen⟩ := HPK.out i (by omega) w6 K6; have e0 := F6.out.1; have e1 := F6.out.2.1; have i1 : (0 : Int) ≤ (i : Int) := (by omega); have i2 : (i : Int) < (out.length : Int) := (by omega); clear S6 K6')
              | (go_simp; go_at_call 119; (with_reducible refine (HPB.out _).mono ?_); rintro e w7 ⟨A7, c, rfl, HW0, hcp, hb7⟩; have T7 := Lib.hid (T6.out.next hb7); have F7 := Lib.hid (F6.out.next hb7); have c0 := T7.out.c.at 0 _ rfl; have c1 := T7.out.c.at 1 _ rfl; have d0 := T7.out.c.f 0; have d1 := T7.out.c.f 1))
          all_goals
            have HW : Hid (Wr (Value.int .i64) ((w7.setCell ⟨w.heap.size + 1, 0, none⟩ (.int .i64 6)).setCell ⟨w.heap.size + 1, 1, none⟩ (.slice A7 xs.length c)) (w.heap.size + 2) A7 xs) := (HW0.more T6.out.size).set1 (i := w.heap.size + 1) (by omega) (.int .i64 6) (.slice A7 xs.length c)
            have T := Lib.hid (T7.out.set 6 (.slice A7 xs.length c))
            clear HW0 hb7 c0 c1 d0 d1 T7 T6 F6 F7 x0 x1 y0 y1 e0 e1
            generalize (w7.setCell ⟨w.heap.size + 1, 0, none⟩ (.int .i64 6)).setCell ⟨w.heap.size + 1, 1, none⟩ (.slice A7 xs.length c) = W9 at *
            have c0 := T.out.c.at 0 _ rfl
            have c1 := T.out.c.at 1 _ rfl
            have r0 := T.out.r.at 0 _ rfl
            have r1 := T.out.r.at 1 _ rfl
            have rf0 := T.out.r.f 0
            have rf1 := T.out.r.f 1
            obtain ⟨s0, s1⟩ := set_two r0 r1
            go_wp2
            refine bodyPost_ret ?_ rfl (CtS.ret (k := 6) (c := c) T.out HW.out hlen hcp (by omega) _ _)
            simp [results, Tryz.results66, go_sem, s0, s1]
      · skip
        have c0 := T.out.c.at 0 _ rfl
        have c1 := T.out.c.at 1 _ rfl
        have d0 := T.out.c.f 0
        have d1 := T.out.c.f 1
        go_wp2_with fail
        refine (srcPick_any g B _ 2 _ T.out.src (by omega) (by omega)).mono ?_
        rintro e w7 ⟨y, y1, y2, rfl, S1, K1⟩
        have T := Lib.hid (T.out.keep S1 K1)
        clear S1 K1 c0 c1 d0 d1
        obtain ⟨xs, HR, hlen⟩ := root_draw y y1 (by omega)
        go_wp2_with fail
        refine (HR.out _).mono ?_
        rintro e w8 ⟨A, c, rfl, HW0, hcp, hb⟩
        have HW : Hid (Wr (Value.int .i64) ((w8.setCell ⟨w.heap.size + 1, 0, none⟩ (.int .i64 2)).setCell ⟨w.heap.size + 1, 1, none⟩ (.slice A xs.length c)) (w.heap.size + 2) A xs) := (HW0.more T.out.size).set1 (i := w.heap.size + 1) (by omega) (.int .i64 2) (.slice A xs.length c)
        have T8 := Lib.hid (T.out.next hb)
        have c0 := T8.out.c.at 0 _ rfl
        have c1 := T8.out.c.at 1 _ rfl
        have d0 := T8.out.c.f 0
        have d1 := T8.out.c.f 1
        have T := Lib.hid (T8.out.set 2 (.slice A xs.length c))
        go_upto_region 30 with fail
        generalize (w8.setCell ⟨w.heap.size + 1, 0, none⟩ (.int .i64 2)).setCell ⟨w.heap.size + 1, 1, none⟩ (.slice A xs.length c) = W9 at *
        clear HR HW0 hb c0 c1 d0 d1 T8
        have c0 := T.out.c.at 0 _ rfl
        have c1 := T.out.c.at 1 _ rfl
        have d0 := T.out.c.f 0
        have d1 := T.out.c.f 1
        have r0 := T.out.r.at 0 _ rfl
        have r1 := T.out.r.at 1 _ rfl
        have rf0 := T.out.r.f 0
        have rf1 := T.out.r.f 1
        obtain ⟨s0, s1⟩ := set_two r0 r1
        go_wp2
        refine bodyPost_ret ?_ rfl (CtS.ret (k := 2) (c := c) T.out HW.out hlen hcp (by omega) _ _)
        simp [results, Tryz.results66, go_sem, s0, s1]
end Go.Proofs.YtpgkellmhlmjeaaGreatDoor
