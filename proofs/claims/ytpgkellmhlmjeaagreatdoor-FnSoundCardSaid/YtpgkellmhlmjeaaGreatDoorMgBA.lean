/- The draw of a certificate that may be bent: the walk. No condition but those that each theorem names. -/
import Derived.Test.YtpgkellmhlmjeaaGreatDoorMgAZ
import Derived.Test.YtpgkellmhlmjeaaGreatDoorMgAH
namespace Go.Proofs.YtpgkellmhlmjeaaGreatDoor
open Go.RowKit Go.Sort
/-- Not too many numbers, or zeros. -/
def LenOk (xs : List Int) : Prop := xs.length ≤ 405 ∨ (xs.length ≤ 421 ∧ ∀ x ∈ xs, x = 0)
theorem LenOk.of {xs : List Int} (h : xs.length ≤ 405) : LenOk xs := .inl h
theorem LenOk.le {xs : List Int} (h : LenOk xs) : xs.length ≤ 421 := by
  rcases h with h | ⟨h, _⟩ <;> omega
/-- What a draw of a certificate returns that may be bent. -/
def RetCb (g B N : Nat) (w : World) (e : Ending) (w' : World) : Prop := ∃ (k : Int) (xs : List Int) (A : Option Addr) (c : Nat), e = .returned (certV k A xs.length c) ∧ Wr (Value.int .i64) w' w.heap.size A xs ∧ (xs.length ≤ c ∧ c ≤ maxLen) ∧ LenOk xs ∧ Src g B N w' ∧ Keep g w w'
/-- The state: the source, the result's block, the certificate's block, the row of its numbers. -/
structure BtS (g B N : Nat) (w : World) (h : Nat) (k : Int) (A : Option Addr) (c : Nat) (xs : List Int) (W : World) : Prop where
  src : Src g B N W
  kp : Keep g w W
  r : BoxV w.heap.size [.int .i64 0, .slice none 0 0] W
  cb : BoxV h [.int .i64 k, .slice A xs.length c] W
  row : 0 < xs.length → ∃ b off, A = some ⟨b, off, none⟩ ∧ w.heap.size < b ∧ b ≠ h ∧ b < W.heap.size ∧ (∀ j x, xs[j]? = some x → W.cell? ⟨b, off + j, none⟩ = some (.int .i64 x)) ∧ ∀ j, W.frozen? ⟨b, j, none⟩ = false
  cap : xs.length ≤ c ∧ c ≤ maxLen
  lt : g < w.heap.size
  lh : w.heap.size < h
theorem made_wrZ (W : World) (n : Nat) (T : TypeId) : Wr (Value.int .i64) (W.alloc (.cells (madeCells #[.int .i64 0] n) T)) W.heap.size (some ⟨W.heap.size, 0, none⟩) (List.replicate n 0) := fun _ => by
  refine ⟨W.heap.size, 0, rfl, Nat.le_refl _, by simp, fun j x hx => ?_, fun j => World.frozen?_alloc_at _ _ _ _ rfl⟩
  rw [List.getElem?_replicate] at hx
  split at hx
  · injection hx with hx
    subst hx
    rename_i hj
    rw [Nat.zero_add, cell_one]
    simp [madeCells, hj, Nat.mod_one]
  · cases hx
section
variable {g B N M h c : Nat} {w : World} {k : Int} {A : Option Addr} {xs : List Int} {W W' : World}
theorem BtS.start (hs : Src g B N W) (hk : Keep g (w.alloc (.cells #[.int .i64 0, .slice none 0 0] 26)) W) (hg : g < w.heap.size) (hw : Wr (Value.int .i64) W (w.alloc (.cells #[.int .i64 0, .slice none 0 0] 26)).heap.size A xs) (hc : xs.length ≤ c ∧ c ≤ maxLen) :
    BtS g B N w W.heap.size k A c xs (W.alloc (.cells #[.int .i64 k, .slice A xs.length c] 26)) := by
  have hlt := hs.lt
  have hz := hk.2.1
  simp at hz
  have e1 := ext1 W (.cells #[.int .i64 k, .slice A xs.length c] 26)
  refine ⟨hs.next e1, (Keep.of (ext1 w _) hg).trans (hk.trans (Keep.of e1 hlt)), ?_, BoxV.new W #[.int .i64 k, .slice A xs.length c] 26, fun hn => ?_, hc, hg, by omega⟩
  · exact ((BoxV.new w #[.int .i64 0, .slice none 0 0] 26).kept hk (by omega)).alloc _
  · obtain ⟨b, off, e, hb, hbl, hcc, hf⟩ := hw hn
    simp at hb
    exact ⟨b, off, e, by omega, by omega, by simp; omega, fun j x hx => (e1.cell (p := ⟨b, off + j, none⟩) hbl).trans (hcc j x hx), fun j => (e1.frozen (p := ⟨b, j, none⟩) hbl).trans (hf j)⟩
theorem BtS.keep (t : BtS g B N w h k A c xs W) (hs : Src g B M W') (kk : Keep g W W') : BtS g B M w h k A c xs W' := by
  have h1 := t.lt
  have h2 := t.lh
  refine ⟨hs, t.kp.trans kk, t.r.kept kk (by omega), t.cb.kept kk (by omega), fun hn => ?_, t.cap, t.lt, t.lh⟩
  obtain ⟨b, off, e, hb, hbh, hbl, hc, hf⟩ := t.row hn
  exact ⟨b, off, e, hb, hbh, Nat.lt_of_lt_of_le hbl kk.2.1, fun j x hx => (kk.cell (by omega) hbl).trans (hc j x hx), fun j => (kk.frozen (by omega) hbl).trans (hf j)⟩
theorem BtS.next (t : BtS g B N w h k A c xs W) (hb : Below W.heap.size W W') : BtS g B N w h k A c xs W' :=
  t.keep (t.src.next hb) (Keep.of hb t.src.lt)
theorem BtS.put {b off j : Nat} (t : BtS g B N w h k (some ⟨b, off, none⟩) c xs W) (hj : j < xs.length) (y : Int) : BtS g B N w h k (some ⟨b, off, none⟩) c (xs.set j y) (W.setCell ⟨b, off + j, none⟩ (.int .i64 y)) := by
  have h1 := t.lt
  have h2 := t.lh
  obtain ⟨b', off', e, hb, hbh, hbl, hc, hf⟩ := t.row (by omega)
  injection e with e
  injection e with e1 e2 _
  subst e1
  subst e2
  refine ⟨t.src.setOther (by omega) _ _, t.kp.setOther h1 (by omega) _ _, t.r.setFar _ (by omega), by rw [List.length_set]; exact t.cb.setFar _ (by omega), fun _ => ⟨b, off, rfl, hb, hbh, by simpa using hbl, fun i x hx => ?_, fun i => (World.frozen?_setCell _ _ _ _).trans (hf i)⟩, by rw [List.length_set]; exact t.cap, h1, h2⟩
  by_cases hij : i = j
  · subst hij
    rw [List.getElem?_set_self hj] at hx
    injection hx with hx
    subst hx
    exact World.cell?_setCell_same _ _ _ (hc i _ (List.getElem?_eq_getElem hj))
  · rw [List.getElem?_set_ne (fun e => hij e.symm)] at hx
    exact (World.cell?_setCell_other _ _ _ _ (by intro e; injection e; omega)).trans (hc i x hx)
theorem BtS.setH {A' : Option Addr} {ys : List Int} {c' j : Nat} {u : Value} (t : BtS g B N w h k A c xs W) {k' : Int} (hc : BoxV h [.int .i64 k', .slice A' ys.length c'] (W.setCell ⟨h, j, none⟩ u))
    (hr : 0 < ys.length → ∃ b off, A' = some ⟨b, off, none⟩ ∧ w.heap.size < b ∧ b ≠ h ∧ b < W.heap.size ∧ (∀ j x, ys[j]? = some x → W.cell? ⟨b, off + j, none⟩ = some (.int .i64 x)) ∧ ∀ j, W.frozen? ⟨b, j, none⟩ = false) (hcp : ys.length ≤ c' ∧ c' ≤ maxLen) :
    BtS g B N w h k' A' c' ys (W.setCell ⟨h, j, none⟩ u) := by
  have h1 := t.lt
  have h2 := t.lh
  refine ⟨t.src.setOther (by omega) _ _, t.kp.setOther h1 (by omega) _ _, t.r.setFar _ (by omega), hc, fun hn => ?_, hcp, h1, h2⟩
  obtain ⟨b, off, e, hb, hbh, hbl, hc, hf⟩ := hr hn
  exact ⟨b, off, e, hb, hbh, by simpa using hbl, fun i x hx => (World.cell?_setCell_other _ _ _ _ (by intro e; injection e; omega)).trans (hc i x hx), fun i => (World.frozen?_setCell _ _ _ _).trans (hf i)⟩
theorem BtS.setK (t : BtS g B N w h k A c xs W) (k' : Int) : BtS g B N w h k' A c xs (W.setCell ⟨h, 0, none⟩ (.int .i64 k')) :=
  t.setH (t.cb.set 0 (.int .i64 k') (by simp)) t.row t.cap
theorem BtS.cut {m : Nat} (t : BtS g B N w h k A c xs W) (hm : m ≤ xs.length) : BtS g B N w h k A c (xs.take m) (W.setCell ⟨h, 1, none⟩ (.slice A m c)) := by
  have hl : (xs.take m).length = m := by rw [List.length_take]; omega
  refine t.setH (by rw [hl]; exact t.cb.set 1 (.slice A m c) (by simp)) (fun hn => ?_) ⟨by have := t.cap.1; omega, t.cap.2⟩
  obtain ⟨b, off, e, hb, hbh, hbl, hc, hf⟩ := t.row (by omega)
  refine ⟨b, off, e, hb, hbh, hbl, fun j x hx => hc j x ?_, hf⟩
  rw [List.getElem?_take] at hx
  split at hx
  · exact hx
  · cases hx
theorem BtS.zero {m : Nat} (t : BtS g B N w h k A c xs W) (hm : m ≤ 421) : BtS g B N w h k (some ⟨W.heap.size, 0, none⟩) m (List.replicate m 0) ((W.alloc (.cells (madeCells #[.int .i64 0] m) 2)).setCell ⟨h, 1, none⟩ (.slice (some ⟨W.heap.size, 0, none⟩) m m)) := by
  have hl : (List.replicate m (0 : Int)).length = m := List.length_replicate
  have t2 := t.next (ext1 W (.cells (madeCells #[.int .i64 0] m) 2))
  refine t2.setH (by rw [hl]; exact t2.cb.set 1 (.slice (some ⟨W.heap.size, 0, none⟩) m m) (by simp)) (fun hn => ?_) ⟨by omega, by unfold maxLen; omega⟩
  have h1 := t.r.lt
  have h2 := t.cb.lt
  obtain ⟨b, off, e, hb, hbl, hc, hf⟩ := made_wrZ W m 2 hn
  exact ⟨b, off, e, by omega, by omega, hbl, hc, hf⟩
theorem BtS.at_ {b off j : Nat} (t : BtS g B N w h k (some ⟨b, off, none⟩) c xs W) (hj : j < xs.length) : g < b ∧ b < W.heap.size ∧ (∃ x, W.cell? ⟨b, off + j, none⟩ = some (.int .i64 x)) ∧ W.frozen? ⟨b, off + j, none⟩ = false := by
  have h1 := t.lt
  obtain ⟨b', off', e, hb, hbh, hbl, hc, hf⟩ := t.row (by omega)
  injection e with e
  injection e with e1 e2 _
  subst e1
  subst e2
  exact ⟨by omega, hbl, ⟨_, hc j _ (List.getElem?_eq_getElem hj)⟩, hf _⟩
theorem rd_keepL {a b : World} {C : Array Value} {T : TypeId} {ys : List Int} (hg : g < a.heap.size) (h : C.toList = ys.map (Value.int .i64)) (k : Keep g ((a.alloc (.cells C T)).drew) b) : Rd (Value.int .i64) b b.heap.size (some ⟨a.heap.size, 0, none⟩) ys := fun hn => by
  have hz := k.2.1
  simp at hz
  obtain ⟨b0, off, e, hb, hc⟩ := (rd_lit a C T ys h) hn
  injection e with e
  injection e with e1 e2 _
  subst e1
  subst e2
  refine ⟨a.heap.size, 0, rfl, by omega, fun j x hx => ?_⟩
  have := hc j x hx
  exact (k.cell (i := a.heap.size) (by omega) (by simp)).trans this
theorem BtS.ret (t : BtS g B N w h k A c xs W) (hl : LenOk xs) (hM : N ≤ M) (x y : Value) :
    RetCb g B M w (.returned (certV k A xs.length c)) ((W.setCell ⟨w.heap.size, 0, none⟩ x).setCell ⟨w.heap.size, 1, none⟩ y) := by
  refine ⟨k, xs, A, c, rfl, fun hn => ?_, t.cap, hl, ((t.src.setOther t.lt _ _).setOther t.lt _ _).more hM, (t.kp.setOther t.lt (Nat.le_refl _) _ _).setOther t.lt (Nat.le_refl _) _ _⟩
  obtain ⟨b, off, e, hb, hbh, hbl, hc, hf⟩ := t.row hn
  exact ⟨b, off, e, by omega, by simpa using hbl, fun i v hv => (World.cell?_setCell_other _ _ _ _ (by intro e; injection e; omega)).trans ((World.cell?_setCell_other _ _ _ _ (by intro e; injection e; omega)).trans (hc i v hv)), fun i => (World.frozen?_setCell _ _ _ _).trans ((World.frozen?_setCell _ _ _ _).trans (hf i))⟩
end
theorem amongR {g B N t : Nat} {w : World} (hs : Src g B N w) (hN : N ≤ 1000000) (hr : Rd (Value.int .i64) w w.heap.size (some ⟨t, 0, none⟩) [0, -1, 1, 1000000000, 1000000001, -9223372036854775808]) (ht : g < t) :
    Calls Tryz.prog 68 #[.pointer (some ⟨g, 0, none⟩), .slice (some ⟨t, 0, none⟩) 6 6] w fun e w' => ∃ x, e = .returned (.int .i64 x) ∧ Src g B (N + 2) w' ∧ Keep g w w' :=
  (srcAmong_any g B N (some ⟨t, 0, none⟩) 6 [0, -1, 1, 1000000000, 1000000001, -9223372036854775808] w hs hN hr (fun b o e => by injection e with e; injection e; omega) (by simp) (by simp)).mono fun _ _ ⟨x, _, h1, h2, h3⟩ => ⟨x, h1, h2, h3⟩
theorem amongL {g B N : Nat} {w : World} (hs : Src g B N w) (hN : N ≤ 1000000) :
    Calls Tryz.prog 68 #[.pointer (some ⟨g, 0, none⟩), .slice (some ⟨w.heap.size, 0, none⟩) 6 6] (w.alloc (.cells #[.int .i64 0, .int .i64 (-1), .int .i64 1, .int .i64 1000000000, .int .i64 1000000001, .int .i64 (-9223372036854775808)] 2)) fun e w' => ∃ x, e = .returned (.int .i64 x) ∧ Src g B (N + 2) w' ∧ Keep g w w' :=
  (amongR (hs.next (ext1 _ _)) hN (rd_lit w #[.int .i64 0, .int .i64 (-1), .int .i64 1, .int .i64 1000000000, .int .i64 1000000001, .int .i64 (-9223372036854775808)] 2 [0, -1, 1, 1000000000, 1000000001, -9223372036854775808] rfl) hs.lt).mono fun _ _ ⟨x, h1, h2, h3⟩ => ⟨x, h1, h2, (Keep.of (ext1 _ _) hs.lt).trans h3⟩
set_option maxRecDepth 100000 in
set_option maxHeartbeats 8000000 in
theorem l26Bent_any (g B N : Nat) (w : World) (h : Src g B N w) (hN : N ≤ 500000) :
    Calls Tryz.prog 27 #[.pointer (some ⟨g, 0, none⟩)] w (RetCb g B (N + 300) w) := by
  obtain ⟨i0, hi, hz0', hz1', hz2'⟩ := info_parts info64
  have HMK : Hid (∀ (m : Nat) (W : World), m ≤ 421 → (Instr.makeSlice 24 (.int .i64 (m : Int)) (.int .i64 (m : Int))).run Tryz.prog W = .ok (.slice (some ⟨W.heap.size, 0, none⟩) m m) (W.alloc (.cells (madeCells #[.int .i64 0] m) 2))) := fun m W hm => by
    have h := run_make (P := Tryz.prog) W 24 2 i0 _ Tryz.underlying24 hi hz0' .i64 .i64 (m : Int) (m : Int) (by omega) (by omega) (by rw [hz2']; omega) (by omega)
    rw [hz1'] at h
    simpa [Value.cells] using h
  have hg := h.lt
  have HS := Lib.hid (h.next (ext1 w (.cells #[.int .i64 0, .slice none 0 0] 26)))
  clear h hi hz0' hz1' hz2'
  go_enter Tryz.func27, Tryz.ntmps27
  go_wp2_with fail
  refine (l26Draw_any g B N _ HS.out (by omega)).mono ?_
  rintro e w1 ⟨k, xs, A, c, rfl, hw, hlen, hcp, S1, K1⟩
  have T := Lib.hid (BtS.start (k := k) S1 K1 hg hw hcp)
  have HYL : Hid (xs.length = xs.length) := rfl
  have HLX : Hid (LenOk xs) := LenOk.of hlen.2
  clear hw S1 K1 HS hcp
  unfold certV at *
  go_upto_region 2 with fail
  generalize w1.alloc (.cells #[.int .i64 k, .slice A xs.length c] 26) = W1 at *
  generalize w1.heap.size = h at *
  have c1 := T.out.cb.at 1 _ rfl
  go_wp2_with fail
  refine (srcPick_any g B _ 8 _ T.out.src (by omega) (by omega)).mono ?_
  rintro e w2 ⟨z, z1, z2, rfl, S1, K1⟩
  have T := Lib.hid (T.out.keep S1 K1)
  clear S1 K1 c1
  have hz : z = 0 ∨ z = 1 ∨ z = 2 ∨ z = 3 ∨ z = 4 ∨ (5 ≤ z ∧ z ≤ 7) := by omega
  have hl1 := hlen.1
  have hl4 := hlen.2
  clear hlen z1 z2
  rcases hz with rfl | rfl | rfl | rfl | rfl | ⟨z1, z2⟩
  · skip
    go_wp2_with fail
    refine (srcPick_any g B _ (xs.length : Int) _ T.out.src (by omega) (by omega)).mono ?_
    rintro e w3 ⟨a, a1, a2, rfl, S1, K1⟩
    have T := Lib.hid (T.out.keep S1 K1)
    clear S1 K1
    obtain ⟨j, rfl⟩ : ∃ j : Nat, a = (j : Int) := ⟨a.toNat, by omega⟩
    have hj : j < xs.length := by omega
    have c1 := T.out.cb.at 1 _ rfl
    obtain ⟨b, off, rfl, hb, hbh, hbl, hcc, hff⟩ := T.out.row (by omega)
    obtain ⟨x, hx⟩ : ∃ x, xs[j]? = some x := ⟨_, List.getElem?_eq_getElem hj⟩
    have x0 := hcc j x hx
    have g0 := hff (off + j)
    have hbg : b ≠ g := by have := T.out.lt; omega
    have i0 : (0 : Int) ≤ (j : Int) := by omega
    have i1 : (j : Int) < (xs.length : Int) := by omega
    clear hcc hff a1 a2 hx
    go_wp2_with fail
    go_region_law
      (first | (go_simp; go_at_call 67; (with_reducible refine (srcPick_any g B _ 5 _ (T.out.src.next (ext_drew (Below.refl _ _))) (by omega) (by omega)).mono ?_); rintro e w4 ⟨y, y1, y2, rfl, S4, K4'⟩; have K4 : Keep g w3 w4 := (Keep.refl g w3).drew.trans K4'; have T4 := Lib.hid (T.out.keep S4 K4); have c1 := T4.out.cb.at 1 _ rfl; have x0 := (K4.cell hbg hbl).trans x0; have g0 := (K4.frozen hbg hbl).trans g0; obtain ⟨z, hz⟩ : ∃ z, IntKind.i64.wrap (y - 2) = z := ⟨_, rfl⟩; obtain ⟨z2, hz2⟩ : ∃ z2, IntKind.i64.wrap (x + z) = z2 := ⟨_, rfl⟩; clear S4 K4'))
    all_goals
      have HYL : Hid ((xs.set j z2).length = xs.length) := List.length_set
      have HL : Hid (LenOk (xs.set j z2)) := LenOk.of (by rw [HYL.out]; exact hl4)
      have T := Lib.hid (T4.out.put hj z2)
      clear T4 K4 c1 x0 g0 hz hz2 y1 y2 HLX
      generalize w4.setCell ⟨b, off + j, none⟩ (.int .i64 z2) = W4 at *
      go_wp2_with fail
      refine (srcOne_any g B _ 40 _ T.out.src (by omega) (by omega)).mono ?_
      rintro e w6 ⟨bz, rfl, S1, K1⟩
      have T := Lib.hid (T.out.keep S1 K1)
      clear S1 K1
      cases bz
      · have c0 := T.out.cb.at 0 _ rfl
        have c1 := T.out.cb.at 1 _ rfl
        have r0 := T.out.r.at 0 _ rfl
        have r1 := T.out.r.at 1 _ rfl
        have rf0 := T.out.r.f 0
        have rf1 := T.out.r.f 1
        obtain ⟨s0, s1⟩ := set_two r0 r1
        try rw [HYL.out] at c1
        have HR := Lib.hid (BtS.ret (M := N + 300) T.out HL.out (by omega))
        try rw [HYL.out] at HR
        clear T HL HYL
        go_wp2
        refine bodyPost_ret ?_ rfl (HR.out _ _)
        simp [results, Tryz.results27, go_sem, s0, s1]
      · go_wp2_with fail
        refine (srcPick_any g B _ 2 _ T.out.src (by omega) (by omega)).mono ?_
        rintro e w7 ⟨y, y1, y2, rfl, S1, K1⟩
        have T := Lib.hid (T.out.keep S1 K1)
        clear S1 K1
        obtain ⟨m, hm, hm1, hm2⟩ : ∃ m : Nat, (420 + y : Int) = (m : Int) ∧ 420 ≤ m ∧ m ≤ 421 := ⟨(420 + y).toNat, by omega, by omega, by omega⟩
        have hmk := HMK.out m w7 hm2
        have hmp : ¬ (m : Int) < 0 := by omega
        have d0 := T.out.cb.f 1
        have T2 := Lib.hid (T.out.zero hm2)
        have c1 := (T.out.next (ext1 w7 (.cells (madeCells #[.int .i64 0] m) 2))).cb.at 1 _ rfl
        have hlh : h < w7.heap.size := T.out.cb.lt
        rw [World.setCell_alloc_past _ _ _ _ hlh] at T2
        clear T HYL HL y1 y2
        go_upto_region 16 with fail
        generalize (w7.setCell ⟨h, 1, none⟩ (.slice (some ⟨w7.heap.size, 0, none⟩) m m)).alloc (.cells (madeCells #[.int .i64 0] m) 2) = W8 at *
        have HL : Hid (LenOk (List.replicate m 0)) := .inr ⟨by rw [List.length_replicate]; omega, fun x hx => (List.mem_replicate.1 hx).2⟩
        clear c1 d0 hmk hlh
        have c0 := T2.out.cb.at 0 _ rfl
        have c1 := T2.out.cb.at 1 _ rfl
        have r0 := T2.out.r.at 0 _ rfl
        have r1 := T2.out.r.at 1 _ rfl
        have rf0 := T2.out.r.f 0
        have rf1 := T2.out.r.f 1
        obtain ⟨s0, s1⟩ := set_two r0 r1
        rw [List.length_replicate] at c1
        have HR := Lib.hid (BtS.ret (M := N + 300) T2.out HL.out (by omega))
        rw [List.length_replicate] at HR
        clear T2 HL
        go_wp2
        refine bodyPost_ret ?_ rfl (HR.out _ _)
        simp [results, Tryz.results27, go_sem, s0, s1]
  · skip
    go_wp2_with fail
    refine (srcPick_any g B _ (xs.length : Int) _ T.out.src (by omega) (by omega)).mono ?_
    rintro e w3 ⟨a, a1, a2, rfl, S1, K1⟩
    have T := Lib.hid (T.out.keep S1 K1)
    clear S1 K1
    obtain ⟨j, rfl⟩ : ∃ j : Nat, a = (j : Int) := ⟨a.toNat, by omega⟩
    have hj : j < xs.length := by omega
    have c1 := T.out.cb.at 1 _ rfl
    obtain ⟨b, off, rfl, hb, hbh, hbl, hcc, hff⟩ := T.out.row (by omega)
    obtain ⟨x, hx⟩ : ∃ x, xs[j]? = some x := ⟨_, List.getElem?_eq_getElem hj⟩
    have x0 := hcc j x hx
    have g0 := hff (off + j)
    have hbg : b ≠ g := by have := T.out.lt; omega
    have i0 : (0 : Int) ≤ (j : Int) := by omega
    have i1 : (j : Int) < (xs.length : Int) := by omega
    clear hcc hff a1 a2 hx
    go_wp2_with fail
    go_region_law
      (first | (go_simp; go_at_call 67; (with_reducible refine (srcPick_any g B _ 5 _ (T.out.src.next (ext_drew (Below.refl _ _))) (by omega) (by omega)).mono ?_); rintro e w4 ⟨y, y1, y2, rfl, S4, K4'⟩; have K4 : Keep g w3 w4 := (Keep.refl g w3).drew.trans K4'; have T4 := Lib.hid (T.out.keep S4 K4); have c1 := T4.out.cb.at 1 _ rfl; have x0 := (K4.cell hbg hbl).trans x0; have g0 := (K4.frozen hbg hbl).trans g0; obtain ⟨z, hz⟩ : ∃ z, IntKind.i64.wrap (y - 2) = z := ⟨_, rfl⟩; obtain ⟨z2, hz2⟩ : ∃ z2, IntKind.i64.wrap (x + z) = z2 := ⟨_, rfl⟩; clear S4 K4'))
    all_goals
      have HYL : Hid ((xs.set j z2).length = xs.length) := List.length_set
      have HL : Hid (LenOk (xs.set j z2)) := LenOk.of (by rw [HYL.out]; exact hl4)
      have T := Lib.hid (T4.out.put hj z2)
      clear T4 K4 c1 x0 g0 hz hz2 y1 y2 HLX
      generalize w4.setCell ⟨b, off + j, none⟩ (.int .i64 z2) = W4 at *
      go_wp2_with fail
      refine (srcOne_any g B _ 40 _ T.out.src (by omega) (by omega)).mono ?_
      rintro e w6 ⟨bz, rfl, S1, K1⟩
      have T := Lib.hid (T.out.keep S1 K1)
      clear S1 K1
      cases bz
      · have c0 := T.out.cb.at 0 _ rfl
        have c1 := T.out.cb.at 1 _ rfl
        have r0 := T.out.r.at 0 _ rfl
        have r1 := T.out.r.at 1 _ rfl
        have rf0 := T.out.r.f 0
        have rf1 := T.out.r.f 1
        obtain ⟨s0, s1⟩ := set_two r0 r1
        try rw [HYL.out] at c1
        have HR := Lib.hid (BtS.ret (M := N + 300) T.out HL.out (by omega))
        try rw [HYL.out] at HR
        clear T HL HYL
        go_wp2
        refine bodyPost_ret ?_ rfl (HR.out _ _)
        simp [results, Tryz.results27, go_sem, s0, s1]
      · go_wp2_with fail
        refine (srcPick_any g B _ 2 _ T.out.src (by omega) (by omega)).mono ?_
        rintro e w7 ⟨y, y1, y2, rfl, S1, K1⟩
        have T := Lib.hid (T.out.keep S1 K1)
        clear S1 K1
        obtain ⟨m, hm, hm1, hm2⟩ : ∃ m : Nat, (420 + y : Int) = (m : Int) ∧ 420 ≤ m ∧ m ≤ 421 := ⟨(420 + y).toNat, by omega, by omega, by omega⟩
        have hmk := HMK.out m w7 hm2
        have hmp : ¬ (m : Int) < 0 := by omega
        have d0 := T.out.cb.f 1
        have T2 := Lib.hid (T.out.zero hm2)
        have c1 := (T.out.next (ext1 w7 (.cells (madeCells #[.int .i64 0] m) 2))).cb.at 1 _ rfl
        have hlh : h < w7.heap.size := T.out.cb.lt
        rw [World.setCell_alloc_past _ _ _ _ hlh] at T2
        clear T HYL HL y1 y2
        go_upto_region 16 with fail
        generalize (w7.setCell ⟨h, 1, none⟩ (.slice (some ⟨w7.heap.size, 0, none⟩) m m)).alloc (.cells (madeCells #[.int .i64 0] m) 2) = W8 at *
        have HL : Hid (LenOk (List.replicate m 0)) := .inr ⟨by rw [List.length_replicate]; omega, fun x hx => (List.mem_replicate.1 hx).2⟩
        clear c1 d0 hmk hlh
        have c0 := T2.out.cb.at 0 _ rfl
        have c1 := T2.out.cb.at 1 _ rfl
        have r0 := T2.out.r.at 0 _ rfl
        have r1 := T2.out.r.at 1 _ rfl
        have rf0 := T2.out.r.f 0
        have rf1 := T2.out.r.f 1
        obtain ⟨s0, s1⟩ := set_two r0 r1
        rw [List.length_replicate] at c1
        have HR := Lib.hid (BtS.ret (M := N + 300) T2.out HL.out (by omega))
        rw [List.length_replicate] at HR
        clear T2 HL
        go_wp2
        refine bodyPost_ret ?_ rfl (HR.out _ _)
        simp [results, Tryz.results27, go_sem, s0, s1]
  · have c1 := T.out.cb.at 1 _ rfl
    have f1 := T.out.cb.f 1
    have hcl := T.out.cap.1
    go_wp2_with fail
    go_region_law
      (first | (go_simp; go_at_call 67; (with_reducible refine (srcPick_any g B _ (xs.length : Int) _ (T.out.src.next (ext_drew (Below.refl _ _))) (by omega) (by omega)).mono ?_); rintro e w4 ⟨y, y1, y2, rfl, S4, K4'⟩; have K4 : Keep g w2 w4 := (Keep.refl g w2).drew.trans K4'; have T4 := Lib.hid (T.out.keep S4 K4); obtain ⟨m, rfl⟩ : ∃ m : Nat, y = (m : Int) := ⟨y.toNat, by omega⟩; have hm : m < xs.length := (by omega); have c1 := T4.out.cb.at 1 _ rfl; have f1 := T4.out.cb.f 1; have i0 : (0 : Int) ≤ (m : Int) := (by omega); have i1 : (m : Int) ≤ (c : Int) := (by omega); clear S4 K4'))
    all_goals
      have HYL : Hid ((xs.take m).length = m) := by unfold Hid; rw [List.length_take]; omega
      have HL : Hid (LenOk (xs.take m)) := LenOk.of (by rw [HYL.out]; omega)
      have T := Lib.hid (T4.out.cut (m := m) (by omega))
      clear T4 K4 c1 f1 y1 y2 i0 i1 HLX
      generalize w4.setCell ⟨h, 1, none⟩ (.slice A m c) = W4 at *
      go_wp2_with fail
      refine (srcOne_any g B _ 40 _ T.out.src (by omega) (by omega)).mono ?_
      rintro e w6 ⟨bz, rfl, S1, K1⟩
      have T := Lib.hid (T.out.keep S1 K1)
      clear S1 K1
      cases bz
      · have c0 := T.out.cb.at 0 _ rfl
        have c1 := T.out.cb.at 1 _ rfl
        have r0 := T.out.r.at 0 _ rfl
        have r1 := T.out.r.at 1 _ rfl
        have rf0 := T.out.r.f 0
        have rf1 := T.out.r.f 1
        obtain ⟨s0, s1⟩ := set_two r0 r1
        try rw [HYL.out] at c1
        have HR := Lib.hid (BtS.ret (M := N + 300) T.out HL.out (by omega))
        try rw [HYL.out] at HR
        clear T HL HYL
        go_wp2
        refine bodyPost_ret ?_ rfl (HR.out _ _)
        simp [results, Tryz.results27, go_sem, s0, s1]
      · go_wp2_with fail
        refine (srcPick_any g B _ 2 _ T.out.src (by omega) (by omega)).mono ?_
        rintro e w7 ⟨y, y1, y2, rfl, S1, K1⟩
        have T := Lib.hid (T.out.keep S1 K1)
        clear S1 K1
        obtain ⟨m, hm, hm1, hm2⟩ : ∃ m : Nat, (420 + y : Int) = (m : Int) ∧ 420 ≤ m ∧ m ≤ 421 := ⟨(420 + y).toNat, by omega, by omega, by omega⟩
        have hmk := HMK.out m w7 hm2
        have hmp : ¬ (m : Int) < 0 := by omega
        have d0 := T.out.cb.f 1
        have T2 := Lib.hid (T.out.zero hm2)
        have c1 := (T.out.next (ext1 w7 (.cells (madeCells #[.int .i64 0] m) 2))).cb.at 1 _ rfl
        have hlh : h < w7.heap.size := T.out.cb.lt
        rw [World.setCell_alloc_past _ _ _ _ hlh] at T2
        clear T HYL HL y1 y2
        go_upto_region 16 with fail
        generalize (w7.setCell ⟨h, 1, none⟩ (.slice (some ⟨w7.heap.size, 0, none⟩) m m)).alloc (.cells (madeCells #[.int .i64 0] m) 2) = W8 at *
        have HL : Hid (LenOk (List.replicate m 0)) := .inr ⟨by rw [List.length_replicate]; omega, fun x hx => (List.mem_replicate.1 hx).2⟩
        clear c1 d0 hmk hlh
        have c0 := T2.out.cb.at 0 _ rfl
        have c1 := T2.out.cb.at 1 _ rfl
        have r0 := T2.out.r.at 0 _ rfl
        have r1 := T2.out.r.at 1 _ rfl
        have rf0 := T2.out.r.f 0
        have rf1 := T2.out.r.f 1
        obtain ⟨s0, s1⟩ := set_two r0 r1
        rw [List.length_replicate] at c1
        have HR := Lib.hid (BtS.ret (M := N + 300) T2.out HL.out (by omega))
        rw [List.length_replicate] at HR
        clear T2 HL
        go_wp2
        refine bodyPost_ret ?_ rfl (HR.out _ _)
        simp [results, Tryz.results27, go_sem, s0, s1]
  · go_wp2_with fail
    refine (srcPick_any g B _ 9 _ T.out.src (by omega) (by omega)).mono ?_
    rintro e w3 ⟨y, y1, y2, rfl, S1, K1⟩
    have T := Lib.hid (T.out.keep S1 K1)
    clear S1 K1
    have c0 := T.out.cb.at 0 _ rfl
    have f0 := T.out.cb.f 0
    have T := Lib.hid (T.out.setK (y - 1))
    have HL := HLX
    go_upto_region 14 with fail
    generalize w3.setCell ⟨h, 0, none⟩ (.int .i64 (y - 1)) = W4 at *
    clear c0 f0
    go_wp2_with fail
    refine (srcOne_any g B _ 40 _ T.out.src (by omega) (by omega)).mono ?_
    rintro e w6 ⟨bz, rfl, S1, K1⟩
    have T := Lib.hid (T.out.keep S1 K1)
    clear S1 K1
    cases bz
    · have c0 := T.out.cb.at 0 _ rfl
      have c1 := T.out.cb.at 1 _ rfl
      have r0 := T.out.r.at 0 _ rfl
      have r1 := T.out.r.at 1 _ rfl
      have rf0 := T.out.r.f 0
      have rf1 := T.out.r.f 1
      obtain ⟨s0, s1⟩ := set_two r0 r1
      try rw [HYL.out] at c1
      have HR := Lib.hid (BtS.ret (M := N + 300) T.out HL.out (by omega))
      try rw [HYL.out] at HR
      clear T HL HYL
      go_wp2
      refine bodyPost_ret ?_ rfl (HR.out _ _)
      simp [results, Tryz.results27, go_sem, s0, s1]
    · go_wp2_with fail
      refine (srcPick_any g B _ 2 _ T.out.src (by omega) (by omega)).mono ?_
      rintro e w7 ⟨y, y1, y2, rfl, S1, K1⟩
      have T := Lib.hid (T.out.keep S1 K1)
      clear S1 K1
      obtain ⟨m, hm, hm1, hm2⟩ : ∃ m : Nat, (420 + y : Int) = (m : Int) ∧ 420 ≤ m ∧ m ≤ 421 := ⟨(420 + y).toNat, by omega, by omega, by omega⟩
      have hmk := HMK.out m w7 hm2
      have hmp : ¬ (m : Int) < 0 := by omega
      have d0 := T.out.cb.f 1
      have T2 := Lib.hid (T.out.zero hm2)
      have c1 := (T.out.next (ext1 w7 (.cells (madeCells #[.int .i64 0] m) 2))).cb.at 1 _ rfl
      have hlh : h < w7.heap.size := T.out.cb.lt
      rw [World.setCell_alloc_past _ _ _ _ hlh] at T2
      clear T HYL HL y1 y2
      go_upto_region 16 with fail
      generalize (w7.setCell ⟨h, 1, none⟩ (.slice (some ⟨w7.heap.size, 0, none⟩) m m)).alloc (.cells (madeCells #[.int .i64 0] m) 2) = W8 at *
      have HL : Hid (LenOk (List.replicate m 0)) := .inr ⟨by rw [List.length_replicate]; omega, fun x hx => (List.mem_replicate.1 hx).2⟩
      clear c1 d0 hmk hlh
      have c0 := T2.out.cb.at 0 _ rfl
      have c1 := T2.out.cb.at 1 _ rfl
      have r0 := T2.out.r.at 0 _ rfl
      have r1 := T2.out.r.at 1 _ rfl
      have rf0 := T2.out.r.f 0
      have rf1 := T2.out.r.f 1
      obtain ⟨s0, s1⟩ := set_two r0 r1
      rw [List.length_replicate] at c1
      have HR := Lib.hid (BtS.ret (M := N + 300) T2.out HL.out (by omega))
      rw [List.length_replicate] at HR
      clear T2 HL
      go_wp2
      refine bodyPost_ret ?_ rfl (HR.out _ _)
      simp [results, Tryz.results27, go_sem, s0, s1]
  · have c1 := T.out.cb.at 1 _ rfl
    have hlh : h < w2.heap.size := T.out.cb.lt
    go_wp2_with fail
    go_region_law
      (first
        | (go_simp; go_at_call 67; (with_reducible refine (srcPick_any g B _ (xs.length : Int) _ (T.out.src.next (by first | exact ext_drew (Below.refl _ _) | exact ext_drew (ext1 _ _) | exact ext_alloc (ext_drew (Below.refl _ _)) _)) (by omega) (by omega)).mono ?_); rintro e w4 ⟨y, y1, y2, rfl, S4, K4'⟩; have T4 := Lib.hid (T.out.keep S4 ((Keep.of (by first | exact ext_drew (Below.refl _ _) | exact ext_drew (ext1 _ _) | exact ext_alloc (ext_drew (Below.refl _ _)) _) T.out.src.lt).trans K4')); obtain ⟨j, rfl⟩ : ∃ m : Nat, y = (m : Int) := ⟨y.toNat, by omega⟩; have hj : j < xs.length := (by omega); have c1 := T4.out.cb.at 1 _ rfl; obtain ⟨b, off, rfl, hb, hbh, hbl, hcc, hff⟩ := T4.out.row (by omega); have i0 : (0 : Int) ≤ (j : Int) := (by omega); have i1 : (j : Int) < (xs.length : Int) := (by omega); have hlh := T4.out.cb.lt; (first | (have RL := Lib.hid (And.intro (rd_keepL (ys := [0, -1, 1, 1000000000, 1000000001, -9223372036854775808]) T.out.src.lt rfl K4') T.out.src.lt)) | skip); clear S4 K4')
        | (go_simp; go_at_call 68; (first | ((with_reducible refine (amongL T4.out.src (by omega)).mono ?_); rintro e w5 ⟨y, rfl, S5, K5'⟩; have T5 := Lib.hid (T4.out.keep S5 K5')) | ((with_reducible refine (amongR T4.out.src (by omega) RL.out.1 RL.out.2).mono ?_); rintro e w5 ⟨y, rfl, S5, K5'⟩; have T5 := Lib.hid (T4.out.keep S5 K5'))); obtain ⟨_, _, ⟨x, x0⟩, g0⟩ := T5.out.at_ hj; have c1 := T5.out.cb.at 1 _ rfl; clear S5 K5'))
    all_goals
      have HYL : Hid ((xs.set j y).length = xs.length) := List.length_set
      have HL : Hid (LenOk (xs.set j y)) := LenOk.of (by rw [HYL.out]; exact hl4)
      have T := Lib.hid (T5.out.put hj y)
      clear T4 T5 c1 x0 g0 HLX
      generalize w5.setCell ⟨b, off + j, none⟩ (.int .i64 y) = W4 at *
      go_wp2_with fail
      refine (srcOne_any g B _ 40 _ T.out.src (by omega) (by omega)).mono ?_
      rintro e w6 ⟨bz, rfl, S1, K1⟩
      have T := Lib.hid (T.out.keep S1 K1)
      clear S1 K1
      cases bz
      · have c0 := T.out.cb.at 0 _ rfl
        have c1 := T.out.cb.at 1 _ rfl
        have r0 := T.out.r.at 0 _ rfl
        have r1 := T.out.r.at 1 _ rfl
        have rf0 := T.out.r.f 0
        have rf1 := T.out.r.f 1
        obtain ⟨s0, s1⟩ := set_two r0 r1
        try rw [HYL.out] at c1
        have HR := Lib.hid (BtS.ret (M := N + 300) T.out HL.out (by omega))
        try rw [HYL.out] at HR
        clear T HL HYL
        go_wp2
        refine bodyPost_ret ?_ rfl (HR.out _ _)
        simp [results, Tryz.results27, go_sem, s0, s1]
      · go_wp2_with fail
        refine (srcPick_any g B _ 2 _ T.out.src (by omega) (by omega)).mono ?_
        rintro e w7 ⟨y, y1, y2, rfl, S1, K1⟩
        have T := Lib.hid (T.out.keep S1 K1)
        clear S1 K1
        obtain ⟨m, hm, hm1, hm2⟩ : ∃ m : Nat, (420 + y : Int) = (m : Int) ∧ 420 ≤ m ∧ m ≤ 421 := ⟨(420 + y).toNat, by omega, by omega, by omega⟩
        have hmk := HMK.out m w7 hm2
        have hmp : ¬ (m : Int) < 0 := by omega
        have d0 := T.out.cb.f 1
        have T2 := Lib.hid (T.out.zero hm2)
        have c1 := (T.out.next (ext1 w7 (.cells (madeCells #[.int .i64 0] m) 2))).cb.at 1 _ rfl
        have hlh : h < w7.heap.size := T.out.cb.lt
        rw [World.setCell_alloc_past _ _ _ _ hlh] at T2
        clear T HYL HL y1 y2
        go_upto_region 16 with fail
        generalize (w7.setCell ⟨h, 1, none⟩ (.slice (some ⟨w7.heap.size, 0, none⟩) m m)).alloc (.cells (madeCells #[.int .i64 0] m) 2) = W8 at *
        have HL : Hid (LenOk (List.replicate m 0)) := .inr ⟨by rw [List.length_replicate]; omega, fun x hx => (List.mem_replicate.1 hx).2⟩
        clear c1 d0 hmk hlh
        have c0 := T2.out.cb.at 0 _ rfl
        have c1 := T2.out.cb.at 1 _ rfl
        have r0 := T2.out.r.at 0 _ rfl
        have r1 := T2.out.r.at 1 _ rfl
        have rf0 := T2.out.r.f 0
        have rf1 := T2.out.r.f 1
        obtain ⟨s0, s1⟩ := set_two r0 r1
        rw [List.length_replicate] at c1
        have HR := Lib.hid (BtS.ret (M := N + 300) T2.out HL.out (by omega))
        rw [List.length_replicate] at HR
        clear T2 HL
        go_wp2
        refine bodyPost_ret ?_ rfl (HR.out _ _)
        simp [results, Tryz.results27, go_sem, s0, s1]
  · have e0 : (z == 0) = false := by simp; omega
    have e1 : (z == 1) = false := by simp; omega
    have e2 : (z == 2) = false := by simp; omega
    have e3 : (z == 3) = false := by simp; omega
    have e4 : (z == 4) = false := by simp; omega
    have HL := HLX
    go_wp2_with fail
    refine (srcOne_any g B _ 40 _ T.out.src (by omega) (by omega)).mono ?_
    rintro e w6 ⟨bz, rfl, S1, K1⟩
    have T := Lib.hid (T.out.keep S1 K1)
    clear S1 K1
    cases bz
    · have c0 := T.out.cb.at 0 _ rfl
      have c1 := T.out.cb.at 1 _ rfl
      have r0 := T.out.r.at 0 _ rfl
      have r1 := T.out.r.at 1 _ rfl
      have rf0 := T.out.r.f 0
      have rf1 := T.out.r.f 1
      obtain ⟨s0, s1⟩ := set_two r0 r1
      try rw [HYL.out] at c1
      have HR := Lib.hid (BtS.ret (M := N + 300) T.out HL.out (by omega))
      try rw [HYL.out] at HR
      clear T HL HYL
      go_wp2
      refine bodyPost_ret ?_ rfl (HR.out _ _)
      simp [results, Tryz.results27, go_sem, s0, s1]
    · go_wp2_with fail
      refine (srcPick_any g B _ 2 _ T.out.src (by omega) (by omega)).mono ?_
      rintro e w7 ⟨y, y1, y2, rfl, S1, K1⟩
      have T := Lib.hid (T.out.keep S1 K1)
      clear S1 K1
      obtain ⟨m, hm, hm1, hm2⟩ : ∃ m : Nat, (420 + y : Int) = (m : Int) ∧ 420 ≤ m ∧ m ≤ 421 := ⟨(420 + y).toNat, by omega, by omega, by omega⟩
      have hmk := HMK.out m w7 hm2
      have hmp : ¬ (m : Int) < 0 := by omega
      have d0 := T.out.cb.f 1
      have T2 := Lib.hid (T.out.zero hm2)
      have c1 := (T.out.next (ext1 w7 (.cells (madeCells #[.int .i64 0] m) 2))).cb.at 1 _ rfl
      have hlh : h < w7.heap.size := T.out.cb.lt
      rw [World.setCell_alloc_past _ _ _ _ hlh] at T2
      clear T HYL HL y1 y2
      go_upto_region 16 with fail
      generalize (w7.setCell ⟨h, 1, none⟩ (.slice (some ⟨w7.heap.size, 0, none⟩) m m)).alloc (.cells (madeCells #[.int .i64 0] m) 2) = W8 at *
      have HL : Hid (LenOk (List.replicate m 0)) := .inr ⟨by rw [List.length_replicate]; omega, fun x hx => (List.mem_replicate.1 hx).2⟩
      clear c1 d0 hmk hlh
      have c0 := T2.out.cb.at 0 _ rfl
      have c1 := T2.out.cb.at 1 _ rfl
      have r0 := T2.out.r.at 0 _ rfl
      have r1 := T2.out.r.at 1 _ rfl
      have rf0 := T2.out.r.f 0
      have rf1 := T2.out.r.f 1
      obtain ⟨s0, s1⟩ := set_two r0 r1
      rw [List.length_replicate] at c1
      have HR := Lib.hid (BtS.ret (M := N + 300) T2.out HL.out (by omega))
      rw [List.length_replicate] at HR
      clear T2 HL
      go_wp2
      refine bodyPost_ret ?_ rfl (HR.out _ _)
      simp [results, Tryz.results27, go_sem, s0, s1]
set_option maxRecDepth 100000 in
set_option maxHeartbeats 1000000 in
theorem a2Certificate_any (A : Option Addr) (n c : Nat) (w : World) (h : Bytes w A n) :
    Calls Tryz.prog 6 #[.slice A n c] w fun e w' => ∃ (k : Int) (xs : List Int) (A1 : Option Addr) (c1 : Nat), e = .returned (certV k A1 xs.length c1) ∧ RdC w' w'.heap.size A1 c1 xs ∧ LenOk xs ∧ Below w.heap.size w w' := by
  have By := Lib.hid (h.next (ext1 w (.cells #[.int .i64 0, .slice none 0 0] 26)))
  clear h
  go_enter Tryz.func6, Tryz.ntmps6
  go_wp2_with fail
  refine (l00From_bytes A n c _ By.out).mono ?_
  rintro e w1 ⟨rfl, S1, hb1⟩
  have B0 := Lib.hid ((BoxV.new w #[.int .i64 0, .slice none 0 0] 26).next hb1)
  have HE := Lib.hid (ext_trans (ext1 w (.cells #[.int .i64 0, .slice none 0 0] 26)) hb1)
  have HS1 : Hid (Src (w.heap.size + 1) (w.heap.size + 1) 0 w1) := by
    have h := S1
    simp only [World.size_alloc] at h
    exact h
  clear S1 hb1 By
  go_wp2_with fail
  refine (l26Bent_any (w.heap.size + 1) (w.heap.size + 1) 0 _ HS1.out (by omega)).mono ?_
  rintro e w2 ⟨k, xs, A1, c1, rfl, hr, hc, hl, S2, K2⟩
  have B1 := Lib.hid (B0.out.kept K2 (by simp))
  have HZ : Hid (w.heap.size < w1.heap.size) := B0.out.lt
  have HE2 : Hid (Below w.heap.size w w2) := HE.out.trans (K2.1.mono (by simp))
  have HR : Hid (∀ x y, RdC ((w2.setCell ⟨w.heap.size, 0, none⟩ x).setCell ⟨w.heap.size, 1, none⟩ y) ((w2.setCell ⟨w.heap.size, 0, none⟩ x).setCell ⟨w.heap.size, 1, none⟩ y).heap.size A1 c1 xs) := fun x y => ⟨((hr.setLow (by exact HZ.out) x).setLow (by exact HZ.out) y).rd, hc⟩
  have HL := Lib.hid hl
  have r0 := B1.out.at 0 _ rfl
  have r1 := B1.out.at 1 _ rfl
  have rf0 := B1.out.f 0
  have rf1 := B1.out.f 1
  obtain ⟨s0, s1⟩ := set_two r0 r1
  clear hr hc hl S2 K2 B0 HS1 HE
  unfold certV
  go_wp2
  exact bodyPost_ret (v := certV k A1 xs.length c1) (by simp [certV, results, Tryz.results6, go_sem, s0, s1]; done) rfl ⟨k, xs, A1, c1, rfl, HR.out _ _, HL.out, ext_set (ext_set HE2.out (Nat.le_refl _) _) (Nat.le_refl _) _⟩
end Go.Proofs.YtpgkellmhlmjeaaGreatDoor
