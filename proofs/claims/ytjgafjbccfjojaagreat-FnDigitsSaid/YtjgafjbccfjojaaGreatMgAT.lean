/- Parts of the proof, merged: WkC SrcW CalDrawW CalDrawsW DrawFW DrawRuW DrawRvW. No condition but those that each theorem names. -/
import Derived.Test.YtjgafjbccfjojaaGreatMgAR
import Derived.Test.YtjgafjbccfjojaaGreatMgAS
import Derived.Test.YtjgafjbccfjojaaGreatMgAA
import Derived.Laws.BitsLemmas
import Derived.Deep.RegionHeld3
import Derived.Test.YtjgafjbccfjojaaGreatMgAL
import Derived.IntWalk
import Derived.Test.YtjgafjbccfjojaaGreatMgAB
import Derived.Deep.AppendLies
namespace Go.Proofs.YtjgafjbccfjojaaGreat
open Go.RowKit Go.Sort Go.Maps Go.WideMaps
def WkC (B g : Nat) (L : List Sd) (i : Nat) (W : World) : Prop :=
  ∃ v A c, BoxV g [v, .slice A L.length c, .int .i64 i] W ∧ B ≤ g ∧ Wr (Value.int .i64) W B A (L.map flS) ∧ L.length ≤ c ∧ c ≤ maxLen
def RetCoC (w : World) (R : Option (List Sd × Nat)) (code : Int) (e : Ending) (w' : World) : Prop :=
  ∃ g, e = .returned (.tuple #[.pointer (some ⟨g, 0, none⟩), .int .i64 code]) ∧ Below w.heap.size w w' ∧ ∀ L i, R = some (L, i) → WkC w.heap.size g L i w'
set_option maxHeartbeats 1000000 in
theorem l08Code_cap (p d q : Int) (w : World) :
    Calls Tryz.prog 95 #[surdV p d q] w (RetCoC w (pdR (p, d, q)) (pdC (p, d, q))) := by
  have HV := Lib.hid (fun W : World => l07Ok_any p d q W)
  have HOK : Hid (sdOk (p, d, q) = surdB p d q) := rfl
  cases hs : surdB p d q
  · have e1 : pdR (p, d, q) = none := by rw [pdR, HOK.out, hs]; rfl
    have e2 : pdC (p, d, q) = 1 := by rw [pdC, HOK.out, hs]; rfl
    rw [e1, e2]
    clear e1 e2
    rw [hs] at HV
    clear hs HOK
    unfold surdV at *
    go_enter Tryz.func95, Tryz.ntmps95
    go_wp2_with fail
    refine (HV.out _).mono ?_
    rintro e w1 ⟨rfl, hb1⟩
    go_wp2
    go_ret2
    exact ⟨_, rfl, ext_alloc (ext_trans (ext1 _ _) hb1) _, fun L i h => by cases h⟩
  · have e1 : pdR (p, d, q) = perOf (p, d, q) := by rw [pdR, HOK.out, hs]; rfl
    have e2 : pdC (p, d, q) = if (perOf (p, d, q)).isSome = true then 0 else 5 := by rw [pdC, HOK.out, hs]; rfl
    have HP := Lib.hid (fun W : World => l08Walk_cap p d q W hs)
    rw [e1, e2]
    clear e1 e2
    rw [hs] at HV
    clear hs HOK
    generalize perOf (p, d, q) = R at *
    obtain ⟨cd, hcd⟩ : ∃ cd, (if R.isSome = true then (0 : Int) else 5) = cd := ⟨_, rfl⟩
    rw [hcd]
    have HCD : Hid (∀ b, R.isSome = b → cd = if b = true then 0 else 5) := fun b hb => by rw [← hcd, hb]
    clear hcd
    unfold surdV at *
    go_enter Tryz.func95, Tryz.ntmps95
    go_wp2_with fail
    refine (HV.out _).mono ?_
    rintro e w1 ⟨rfl, hb1⟩
    obtain ⟨hc1, hf1⟩ := bcell hb1
    have hz1 : w.heap.size < w1.heap.size := by have := hb1.size; simp at this; omega
    have HB1 := Lib.hid (ext_trans (ext1 w (.cells #[.int .i64 p, .int .i64 d, .int .i64 q] 117)) hb1)
    go_wp2_with fail
    refine (HP.out _).mono ?_
    rintro e w2 ⟨g, rfl, hb2, hw⟩
    have HW : Hid (∀ L i, R = some (L, i) → WkC w.heap.size g L i w2) := fun L i h => by
      obtain ⟨v, A, c, a1, a2, a3, a4⟩ := hw L i h
      exact ⟨v, A, c, a1, Nat.le_trans HB1.out.size a2, a3.more HB1.out.size, a4⟩
    have HB2 := Lib.hid (ext_trans HB1.out hb2)
    clear hw hb2 hb1 HB1 hc1 hf1
    cases hR : R.isSome
    · obtain rfl : cd = 5 := HCD.out false hR
      clear hR HCD
      go_wp2
      go_ret2
      exact ⟨g, rfl, HB2.out, HW.out⟩
    · obtain rfl : cd = 0 := HCD.out true hR
      clear hR HCD
      go_wp2
      go_ret2
      exact ⟨g, rfl, HB2.out, HW.out⟩
end Go.Proofs.YtjgafjbccfjojaaGreat
namespace Go.Proofs.YtjgafjbccfjojaaGreat
open Go.RowKit Go.Sort
/-- Only block g is written; what is new lies behind. -/
def Keep (g : Nat) (w w' : World) : Prop := Below g w w' ∧ w.heap.size ≤ w'.heap.size ∧ ∀ b, b ≠ g → b < w.heap.size → w'.heap[b]? = w.heap[b]?
theorem Keep.refl (g : Nat) (w : World) : Keep g w w := ⟨Below.refl _ _, Nat.le_refl _, fun _ _ _ => rfl⟩
theorem Keep.trans {g : Nat} {a b c : World} (h : Keep g a b) (k : Keep g b c) : Keep g a c :=
  ⟨h.1.trans k.1, Nat.le_trans h.2.1 k.2.1, fun i hi hl => (k.2.2 i hi (Nat.lt_of_lt_of_le hl h.2.1)).trans (h.2.2 i hi hl)⟩
theorem Keep.set {g : Nat} {a b : World} (h : Keep g a b) (j : Nat) (u : Value) : Keep g a (b.setCell ⟨g, j, none⟩ u) :=
  ⟨h.1.setCell (by exact Nat.le_refl _) u, by simpa using h.2.1, fun i hi hl => (Below.heap_setCell b ⟨g, j, none⟩ u i (by simpa using hi)).trans (h.2.2 i hi hl)⟩
theorem Keep.drew {g : Nat} {a b : World} (h : Keep g a b) : Keep g a b.drew := ⟨h.1.drew, h.2.1, h.2.2⟩
theorem Keep.of {g : Nat} {a b : World} (h : Below a.heap.size a b) (hg : g < a.heap.size) : Keep g a b :=
  ⟨h.mono (Nat.le_of_lt hg), h.size, fun _ _ hl => h.block _ hl⟩
theorem Keep.cell {g : Nat} {a b : World} (h : Keep g a b) {i o : Nat} (hi : i ≠ g) (hl : i < a.heap.size) : b.cell? ⟨i, o, none⟩ = a.cell? ⟨i, o, none⟩ := World.cell?_of_block (h.2.2 i hi hl)
theorem Keep.frozen {g : Nat} {a b : World} (h : Keep g a b) {i o : Nat} (hi : i ≠ g) (hl : i < a.heap.size) : b.frozen? ⟨i, o, none⟩ = a.frozen? ⟨i, o, none⟩ := by simp only [World.frozen?, h.2.2 i hi hl]
/-- A source in block g; N at most is drawn from it. -/
def Src (g B N : Nat) (W : World) : Prop :=
  ∃ (A : Option Addr) (n c : Nat) (bs : List Int) (k : Nat) (sd : Int), W.cell? ⟨g, 0, none⟩ = some (.slice A n c) ∧ W.cell? ⟨g, 1, none⟩ = some (.int .i64 k) ∧ W.cell? ⟨g, 2, none⟩ = some (.int .u64 sd) ∧ k ≤ N ∧
    Rd (Value.int .u8) W B A bs ∧ bs.length = n ∧ n ≤ 1000000 ∧ (∀ x ∈ bs, 0 ≤ x ∧ x ≤ 255) ∧ (0 ≤ sd ∧ sd ≤ 18446744073709551615) ∧ (∀ j, W.frozen? ⟨g, j, none⟩ = false) ∧ g < W.heap.size ∧ B ≤ g
theorem Src.next {g B N : Nat} {W W' : World} (h : Src g B N W) (hb : Below W.heap.size W W') : Src g B N W' := by
  obtain ⟨A, n, c, bs, k, sd, h0, h1, h2, h3, h4, h5, h6, h7, h8, h9, h10, h11⟩ := h
  exact ⟨A, n, c, bs, k, sd, (hb.cell (p := ⟨g, 0, none⟩) h10).trans h0, (hb.cell (p := ⟨g, 1, none⟩) h10).trans h1, (hb.cell (p := ⟨g, 2, none⟩) h10).trans h2, h3, h4.below (hb.mono (by omega)), h5, h6, h7, h8,
    fun j => (hb.frozen (p := ⟨g, j, none⟩) h10).trans (h9 j), Nat.lt_of_lt_of_le h10 hb.size, h11⟩
theorem Src.more {g B N M : Nat} {W : World} (h : Src g B N W) (hm : N ≤ M) : Src g B M W := by
  obtain ⟨A, n, c, bs, k, sd, h0, h1, h2, h3, r⟩ := h
  exact ⟨A, n, c, bs, k, sd, h0, h1, h2, by omega, r⟩
/-- What a draw returns. -/
def RetN (g B N : Nat) (lo hi : Int) (w : World) (e : Ending) (w' : World) : Prop := ∃ x : Int, lo ≤ x ∧ x ≤ hi ∧ e = .returned (.int .i64 x) ∧ Src g B N w' ∧ Keep g w w'
theorem wrapU (n : Int) : 0 ≤ IntKind.u64.wrap n ∧ IntKind.u64.wrap n ≤ 18446744073709551615 := by
  have h : IntKind.u64.wrap n = n % 18446744073709551616 := by simp [IntKind.wrap, IntKind.bits, IntKind.signed]
  rw [h]; omega
theorem mask8 {z : Int} (h0 : 0 ≤ z) (h1 : z ≤ 18446744073709551615) : 0 ≤ wrap64 (bits .and .u64 (z / 1099511627776) 255) ∧ wrap64 (bits .and .u64 (z / 1099511627776) 255) ≤ 255 := by
  have hw : ∀ n : Int, 0 ≤ n → n < 2 ^ 63 → IntKind.u64.wrap n = n := fun n a b => by
    have h : IntKind.u64.wrap n = n % 18446744073709551616 := by simp [IntKind.wrap, IntKind.bits, IntKind.signed]
    rw [h]; omega
  have h := bits_mask .u64 63 (by decide) hw 8 (by decide) (z / 1099511627776) (by omega) (by omega)
  have e : ((2 : Int) ^ 8 - 1) = 255 := by decide
  have e2 : ((2 : Int) ^ 8) = 256 := by decide
  rw [e, e2] at h
  rw [h]
  unfold wrap64
  omega
theorem cell_dn (W : World) (m : Nat) (p : Addr) : (W.drewN m).cell? p = W.cell? p := rfl
theorem Src.put {g B N : Nat} {W : World} (h : Src g B N W) {k : Nat} (_ : W.cell? ⟨g, 1, none⟩ = some (.int .i64 k)) (hN : k ≤ N) (m m' : Nat) {v : Int} (hv : 0 ≤ v ∧ v ≤ 18446744073709551615) :
    Src g B (N + 1) ((((W.drewN m).setCell ⟨g, 1, none⟩ (.int .i64 ((k : Int) + 1))).setCell ⟨g, 2, none⟩ (.int .u64 v)).drewN m') ∧ Keep g W ((((W.drewN m).setCell ⟨g, 1, none⟩ (.int .i64 ((k : Int) + 1))).setCell ⟨g, 2, none⟩ (.int .u64 v)).drewN m') := by
  obtain ⟨A, n, c, bs, k', sd, h0, h1, h2, h3, h4, h5, h6, h7, h8, h9, h10, h11⟩ := h
  have o : ∀ (V : World) (i j : Nat) (u : Value), i ≠ j → (V.setCell ⟨g, i, none⟩ u).cell? ⟨g, j, none⟩ = V.cell? ⟨g, j, none⟩ := fun V i j u hij => World.cell?_setCell_other _ _ _ _ (by intro e; injection e; omega)
  have s : ∀ (V : World) (i : Nat) (u v : Value), V.cell? ⟨g, i, none⟩ = some v → (V.setCell ⟨g, i, none⟩ u).cell? ⟨g, i, none⟩ = some u := fun V i u v hv => World.cell?_setCell_same _ _ _ hv
  have K0 : Keep g W (W.drewN m) := ⟨⟨rfl, rfl, rfl, Nat.le_refl _, fun _ _ => rfl⟩, Nat.le_refl _, fun _ _ _ => rfl⟩
  have K1 := (K0.set 1 (.int .i64 ((k : Int) + 1))).set 2 (.int .u64 v)
  refine ⟨⟨A, n, c, bs, k + 1, v, ?_, ?_, ?_, by omega, (h4.below (K1.1.mono h11)).below ⟨rfl, rfl, rfl, Nat.le_refl _, fun _ _ => rfl⟩, h5, h6, h7, hv, fun j => ?_, ?_, h11⟩, ⟨K1.1.trans ⟨rfl, rfl, rfl, Nat.le_refl _, fun _ _ => rfl⟩, K1.2.1, K1.2.2⟩⟩
  · rw [cell_dn, o _ 2 0 _ (by omega), o _ 1 0 _ (by omega)]; exact h0
  · rw [cell_dn, o _ 2 1 _ (by omega)]; exact (s _ _ _ _ h1)
  · rw [cell_dn]; exact s _ _ _ _ ((o _ 1 2 _ (by omega)).trans h2)
  · exact (World.frozen?_setCell _ _ _ _).trans ((World.frozen?_setCell _ _ _ _).trans (h9 j))
  · have := K1.2.1
    exact Nat.lt_of_lt_of_le h10 this
set_option maxHeartbeats 1000000 in
theorem srcNext_any (g B N : Nat) (w : World) (h : Src g B N w) (hN : N ≤ 1000000000) :
    Calls Tryz.prog 67 #[.pointer (some ⟨g, 0, none⟩)] w (RetN g B (N + 1) 0 255 w) := by
  obtain ⟨A, n, c, bs, k, sd, h0, h1, h2, h3, h4, h5, h6, h7, h8, h9, h10, h11⟩ := id h
  obtain ⟨d1, d2⟩ := h8
  have hf1 := h9 1
  have hf2 := h9 2
  have HS := Lib.hid h
  clear h h9
  by_cases hlt : k < n
  · obtain ⟨b, off, rfl, hb, hc⟩ := h4 (by omega)
    obtain ⟨x, hxk⟩ : ∃ x, bs[k]? = some x := ⟨_, List.getElem?_eq_getElem (by omega)⟩
    have c1 := hc k x hxk
    obtain ⟨x1, x2⟩ := h7 x (List.mem_of_getElem? hxk)
    have i0 : (0 : Int) ≤ (k : Int) := by omega
    have i1 : (k : Int) < (n : Int) := by omega
    clear hc hxk
    go_enter Tryz.func67, Tryz.ntmps67
    go_wp2_with fail
    go_quiet (fail)
    go_wp2_with fail
    go_quiet (fail)
    go_wp2_with fail
    go_quiet (fail)
    go_wp2_with fail
    go_ret
    obtain ⟨r1, r2⟩ := HS.out.put h1 h3 _ _ (wrapU _)
    exact ⟨x, x1, x2, rfl, r1, r2⟩
  · have j1 : ¬ (k : Int) < (n : Int) := by omega
    go_enter Tryz.func67, Tryz.ntmps67
    go_wp2_with fail
    go_quiet (fail)
    go_wp2_with fail
    go_quiet (fail)
    go_wp2_with fail
    go_ret
    obtain ⟨r1, r2⟩ := HS.out.put h1 h3 _ _ (wrapU _)
    exact ⟨_, (mask8 (wrapU _).1 (wrapU _).2).1, (mask8 (wrapU _).1 (wrapU _).2).2, rfl, r1, r2⟩
set_option maxHeartbeats 1000000 in
theorem srcPick_any (g B N : Nat) (n : Int) (w : World) (h : Src g B N w) (hN : N ≤ 1000000) (hn : n ≤ 1000000) :
    Calls Tryz.prog 35 #[.pointer (some ⟨g, 0, none⟩), .int .i64 n] w (RetN g B (N + 2) 0 (max 0 (n - 1)) w) := by
  have HS := Lib.hid h
  clear h
  by_cases h1 : n ≤ 1
  · go_enter Tryz.func35, Tryz.ntmps35
    go_wp2
    go_ret
    exact ⟨0, by omega, by omega, rfl, HS.out.more (by omega), Keep.refl _ _⟩
  · have h0 : (n == 0) = false := by simp; omega
    by_cases h2 : 200 < n
    · go_enter Tryz.func35, Tryz.ntmps35
      go_wp2_with fail
      refine (srcNext_any g B N _ HS.out (by omega)).mono ?_
      rintro e w1 ⟨x, x1, x2, rfl, S1, K1⟩
      go_wp2_with fail
      refine (srcNext_any g B (N + 1) _ S1 (by omega)).mono ?_
      rintro e w2 ⟨y, y1, y2, rfl, S2, K2⟩
      have q1 := Int.emod_nonneg (x * 256 + y) (show n ≠ 0 by omega)
      have q2 := Int.emod_lt_of_pos (x * 256 + y) (show 0 < n by omega)
      go_wp2
      go_ret
      exact ⟨_, q1, by omega, rfl, S2, K1.trans K2⟩
    · go_enter Tryz.func35, Tryz.ntmps35
      go_wp2_with fail
      refine (srcNext_any g B N _ HS.out (by omega)).mono ?_
      rintro e w1 ⟨x, x1, x2, rfl, S1, K1⟩
      have q1 := Int.emod_nonneg x (show n ≠ 0 by omega)
      have q2 := Int.emod_lt_of_pos x (show 0 < n by omega)
      go_wp2
      go_ret
      exact ⟨_, q1, by omega, rfl, S1.more (by omega), K1⟩
theorem srcOne_any (g B N : Nat) (n : Int) (w : World) (h : Src g B N w) (hN : N ≤ 1000000) (hn : n ≤ 1000000) :
    Calls Tryz.prog 33 #[.pointer (some ⟨g, 0, none⟩), .int .i64 n] w (fun e w' => ∃ b : Bool, e = .returned (.bool b) ∧ Src g B (N + 2) w' ∧ Keep g w w') := by
  have HS := Lib.hid h
  clear h
  go_enter Tryz.func33, Tryz.ntmps33
  go_wp2_with fail
  refine (srcPick_any g B N n _ HS.out hN hn).mono ?_
  rintro e w1 ⟨x, x1, x2, rfl, S1, K1⟩
  by_cases h0 : x = 0
  · go_wp2
    go_ret
    exact ⟨_, rfl, S1, K1⟩
  · go_wp2
    go_ret
    exact ⟨_, rfl, S1, K1⟩
theorem srcAmong_any (g B N : Nat) (A : Option Addr) (c : Nat) (xs : List Int) (w : World) (h : Src g B N w) (hN : N ≤ 1000000) (hx : Rd (Value.int .i64) w w.heap.size A xs) (hA : ∀ b o, A = some ⟨b, o, none⟩ → b ≠ g) (h1 : 1 ≤ xs.length) (h2 : xs.length ≤ 100) :
    Calls Tryz.prog 34 #[.pointer (some ⟨g, 0, none⟩), .slice A xs.length c] w (fun e w' => ∃ x, x ∈ xs ∧ e = .returned (.int .i64 x) ∧ Src g B (N + 2) w' ∧ Keep g w w') := by
  have HS := Lib.hid h
  obtain ⟨b, off, rfl, hb, hc⟩ := hx (by omega)
  have hbg : b ≠ g := hA b off rfl
  have HC := Lib.hid hc
  clear h hc hx hA
  go_enter Tryz.func34, Tryz.ntmps34
  go_wp2_with fail
  refine (srcPick_any g B N xs.length _ HS.out hN (by omega)).mono ?_
  rintro e w1 ⟨x, x1, x2, rfl, S1, K1⟩
  obtain ⟨k, rfl⟩ : ∃ k : Nat, x = (k : Int) := ⟨x.toNat, by omega⟩
  have hk : k < xs.length := by omega
  have i0 : (0 : Int) ≤ (k : Int) := by omega
  have i1 : (k : Int) < (xs.length : Int) := by omega
  have c1 := (K1.cell (o := off + k) hbg hb).trans (HC.out k _ (List.getElem?_eq_getElem hk))
  go_wp2
  go_ret
  exact ⟨_, List.getElem_mem hk, rfl, S1, K1⟩
end Go.Proofs.YtjgafjbccfjojaaGreat
namespace Go.Proofs.YtjgafjbccfjojaaGreat
open Go.RowKit Go.Sort
theorem Keep.setOther {g : Nat} {a b : World} (h : Keep g a b) (hg : g < a.heap.size) {i : Nat} (hi : a.heap.size ≤ i) (j : Nat) (u : Value) : Keep g a (b.setCell ⟨i, j, none⟩ u) :=
  ⟨h.1.setCell (by simp; omega) u, by simpa using h.2.1, fun k hk hl => (Below.heap_setCell b ⟨i, j, none⟩ u k (by simp; omega)).trans (h.2.2 k hk hl)⟩
theorem Src.setOther {g B N : Nat} {W : World} (h : Src g B N W) {i : Nat} (hi : g < i) (j : Nat) (u : Value) : Src g B N (W.setCell ⟨i, j, none⟩ u) := by
  obtain ⟨A, n, c, bs, k, sd, h0, h1, h2, h3, h4, h5, h6, h7, h8, h9, h10, h11⟩ := h
  have o : ∀ m, (W.setCell ⟨i, j, none⟩ u).cell? ⟨g, m, none⟩ = W.cell? ⟨g, m, none⟩ := fun m => World.cell?_setCell_other _ _ _ _ (by intro e; injection e; omega)
  exact ⟨A, n, c, bs, k, sd, (o 0).trans h0, (o 1).trans h1, (o 2).trans h2, h3, h4.below ((Below.refl _ _).setCell (by simp; omega) u), h5, h6, h7, h8, fun m => (World.frozen?_setCell _ _ _ _).trans (h9 m), by simpa using h10, h11⟩
/-- A new literal slice of integers. -/
theorem rd_lit (W : World) (cs : Array Value) (T : TypeId) (xs : List Int) (h : cs.toList = xs.map (Value.int .i64)) : Rd (Value.int .i64) (W.alloc (.cells cs T)) (W.alloc (.cells cs T)).heap.size (some ⟨W.heap.size, 0, none⟩) xs := fun _ =>
  ⟨W.heap.size, 0, rfl, by simp, fun j x hx => by
    rw [Nat.zero_add, cell_one, ← Array.getElem?_toList, h, List.getElem?_map, hx]; rfl⟩
/-- What a draw of one integer returns, whatever it is. -/
def RetA (g B N : Nat) (w : World) (e : Ending) (w' : World) : Prop := ∃ x : Int, e = .returned (.int .i64 x) ∧ Src g B N w' ∧ Keep g w w'
theorem l00From_any (A : Option Addr) (n c : Nat) (bs : List Int) (w : World) (hx : Rd (Value.int .u8) w w.heap.size A bs) (hl : bs.length = n) (hn : n ≤ 1000000) (hb : ∀ x ∈ bs, 0 ≤ x ∧ x ≤ 255) :
    Calls Tryz.prog 30 #[.slice A n c] w fun e w' => e = .returned (.pointer (some ⟨w.heap.size, 0, none⟩)) ∧ Src w.heap.size w.heap.size 0 w' ∧ Below w.heap.size w w' := by
  have HX := Lib.hid hx
  have HB := Lib.hid hb
  clear hx hb
  go_enter Tryz.func30, Tryz.ntmps30
  go_wp2
  go_ret
  exact ⟨rfl, ⟨A, n, c, bs, 0, 0, by rw [cell_one]; rfl, by rw [cell_one]; rfl, by rw [cell_one]; rfl, by omega, HX.out.below (ext1 _ _), hl, hn, HB.out, by omega, fun j => World.frozen?_alloc_at _ _ _ _ rfl, by simp, Nat.le_refl _⟩, ext1 _ _⟩
/-- A rule in block h. -/
def RB (h : Nat) (l c s : Int) (W : World) : Prop := W.cell? ⟨h, 0, none⟩ = some (.int .i64 l) ∧ W.cell? ⟨h, 1, none⟩ = some (.int .i64 c) ∧ W.cell? ⟨h, 2, none⟩ = some (.int .i64 s) ∧ (∀ j, W.frozen? ⟨h, j, none⟩ = false) ∧ h < W.heap.size
theorem RB.set1 {h : Nat} {l c s : Int} {W : World} (hb : RB h l c s W) (x : Int) : RB h l x s (W.setCell ⟨h, 1, none⟩ (.int .i64 x)) := by
  have o : ∀ m, m ≠ 1 → (W.setCell ⟨h, 1, none⟩ (.int .i64 x)).cell? ⟨h, m, none⟩ = W.cell? ⟨h, m, none⟩ := fun m hm => World.cell?_setCell_other _ _ _ _ (by intro e; injection e; omega)
  exact ⟨(o 0 (by omega)).trans hb.1, World.cell?_setCell_same _ _ _ hb.2.1, (o 2 (by omega)).trans hb.2.2.1, fun m => (World.frozen?_setCell _ _ _ _).trans (hb.2.2.2.1 m), by simpa using hb.2.2.2.2⟩
theorem RB.set2 {h : Nat} {l c s : Int} {W : World} (hb : RB h l c s W) (x : Int) : RB h l c x (W.setCell ⟨h, 2, none⟩ (.int .i64 x)) := by
  have o : ∀ m, m ≠ 2 → (W.setCell ⟨h, 2, none⟩ (.int .i64 x)).cell? ⟨h, m, none⟩ = W.cell? ⟨h, m, none⟩ := fun m hm => World.cell?_setCell_other _ _ _ _ (by intro e; injection e; omega)
  exact ⟨(o 0 (by omega)).trans hb.1, (o 1 (by omega)).trans hb.2.1, World.cell?_setCell_same _ _ _ hb.2.2.1, fun m => (World.frozen?_setCell _ _ _ _).trans (hb.2.2.2.1 m), by simpa using hb.2.2.2.2⟩
section
variable {g B N : Nat} {w : World} {h : Nat} {l c s : Int} {W : World}
end
theorem set_three {w : World} {b : Nat} {x y z : Value} (h0 : w.cell? ⟨b, 0, none⟩ = some x) (h1 : w.cell? ⟨b, 1, none⟩ = some y) (h2 : w.cell? ⟨b, 2, none⟩ = some z) :
    (∀ v, (w.setCell ⟨b, 0, none⟩ v).cell? ⟨b, 0, none⟩ = some v) ∧ (∀ u v, ((w.setCell ⟨b, 0, none⟩ u).setCell ⟨b, 1, none⟩ v).cell? ⟨b, 1, none⟩ = some v) ∧ (∀ t u v, (((w.setCell ⟨b, 0, none⟩ t).setCell ⟨b, 1, none⟩ u).setCell ⟨b, 2, none⟩ v).cell? ⟨b, 2, none⟩ = some v) :=
  ⟨fun v => World.cell?_setCell_same _ _ _ h0, fun u v => World.cell?_setCell_same (v := v) _ _ ((World.cell?_setCell_other _ ⟨b, 0, none⟩ ⟨b, 1, none⟩ _ (by simp)).trans h1),
   fun t u v => World.cell?_setCell_same (v := v) _ _ ((World.cell?_setCell_other _ ⟨b, 1, none⟩ ⟨b, 2, none⟩ _ (by simp)).trans ((World.cell?_setCell_other _ ⟨b, 0, none⟩ ⟨b, 2, none⟩ _ (by simp)).trans h2))⟩
end Go.Proofs.YtjgafjbccfjojaaGreat
namespace Go.Proofs.YtjgafjbccfjojaaGreat
open Go.RowKit Go.Sort
/-- A code of bytes. -/
def Bytes (w : World) (A : Option Addr) (n : Nat) : Prop := ∃ bs : List Int, Rd (Value.int .u8) w w.heap.size A bs ∧ bs.length = n ∧ n ≤ 1000000 ∧ ∀ x ∈ bs, 0 ≤ x ∧ x ≤ 255
theorem Bytes.next {w w' : World} {A : Option Addr} {n : Nat} (h : Bytes w A n) (hb : Below w.heap.size w w') : Bytes w' A n := by
  obtain ⟨bs, h1, h2⟩ := h
  exact ⟨bs, (h1.below hb).more hb.size, h2⟩
theorem l00From_bytes (A : Option Addr) (n c : Nat) (w : World) (h : Bytes w A n) :
    Calls Tryz.prog 30 #[.slice A n c] w fun e w' => e = .returned (.pointer (some ⟨w.heap.size, 0, none⟩)) ∧ Src w.heap.size w.heap.size 0 w' ∧ Below w.heap.size w w' := by
  obtain ⟨bs, h1, h2, h3, h4⟩ := h
  exact l00From_any A n c bs w h1 h2 h3 h4
end Go.Proofs.YtjgafjbccfjojaaGreat
namespace Go.Proofs.YtjgafjbccfjojaaGreat
open Go.RowKit Go.Sort
theorem B2.keep {g h : Nat} {x y : Int} {W W' : World} (hb : B2 h x y W) (k : Keep g W W') (hg : h ≠ g) : B2 h x y W' :=
  ⟨(k.cell hg hb.2.2.2).trans hb.1, (k.cell hg hb.2.2.2).trans hb.2.1, fun j => (k.frozen hg hb.2.2.2).trans (hb.2.2.1 j), Nat.lt_of_lt_of_le hb.2.2.2 k.2.1⟩
theorem B2.set0 {g : Nat} {x y : Int} {W : World} (h : B2 g x y W) (a : Int) : B2 g a y (W.setCell ⟨g, 0, none⟩ (.int .i64 a)) := by
  obtain ⟨h0, h1, hf, hl⟩ := h
  exact ⟨World.cell?_setCell_same _ _ _ h0, (World.cell?_setCell_other _ ⟨g, 0, none⟩ ⟨g, 1, none⟩ _ (by simp)).trans h1, fun m => (World.frozen?_setCell _ _ _ _).trans (hf m), by simpa using hl⟩
theorem B2.set1 {g : Nat} {x y : Int} {W : World} (h : B2 g x y W) (a : Int) : B2 g x a (W.setCell ⟨g, 1, none⟩ (.int .i64 a)) := by
  obtain ⟨h0, h1, hf, hl⟩ := h
  exact ⟨(World.cell?_setCell_other _ ⟨g, 1, none⟩ ⟨g, 0, none⟩ _ (by simp)).trans h0, World.cell?_setCell_same _ _ _ h1, fun m => (World.frozen?_setCell _ _ _ _).trans (hf m), by simpa using hl⟩
/-- What a draw of a fraction returns. -/
def RetF (g B N : Nat) (w : World) (e : Ending) (w' : World) : Prop := ∃ a b : Int, e = .returned (fracV a b) ∧ Src g B N w' ∧ Keep g w w'
/-- The state of a draw: the source in g, the result in w's first new block. -/
def S0 (g B N : Nat) (w W : World) : Prop := Src g B N W ∧ Keep g w W ∧ B2 w.heap.size 0 0 W ∧ g < w.heap.size
section
variable {g B N : Nat} {w : World} {h : Nat} {a b : Int} {W : World}
theorem Src.lt {g B N : Nat} {W : World} (h : Src g B N W) : g < W.heap.size := by
  obtain ⟨A, n, c, bs, k, sd, h0, h1, h2, h3, h4, h5, h6, h7, h8, h9, h10, h11⟩ := h; exact h10
theorem S0.start (hs : Src g B N w) (T : TypeId) : S0 g B N w (w.alloc (.cells #[.int .i64 0, .int .i64 0] T)) :=
  ⟨hs.next (ext1 _ _), Keep.of (ext1 _ _) hs.lt, B2.new _ _ _ _, hs.lt⟩
theorem S0.keep {M : Nat} {W' : World} (t : S0 g B N w W) (hs : Src g B M W') (k : Keep g W W') : S0 g B M w W' := by
  obtain ⟨t1, t2, t3, t4⟩ := t
  exact ⟨hs, t2.trans k, t3.keep k (by omega), t4⟩
theorem S0.next {W' : World} (t : S0 g B N w W) (hb : Below W.heap.size W W') : S0 g B N w W' := t.keep (t.1.next hb) (Keep.of hb (Nat.lt_of_lt_of_le t.2.2.2 t.2.1.2.1))
theorem S0.alloc (t : S0 g B N w W) (o : Obj) : S0 g B N w (W.alloc o) := t.next (ext1 _ _)
theorem S0.ret {M : Nat} (t : S0 g B N w W) (hM : N ≤ M) (x y : Value) (a b : Int) : RetF g B M w (.returned (fracV a b)) ((W.setCell ⟨w.heap.size, 0, none⟩ x).setCell ⟨w.heap.size, 1, none⟩ y) := by
  obtain ⟨t1, t2, t3, t4⟩ := t
  exact ⟨a, b, rfl, ((t1.setOther t4 _ _).setOther t4 _ _).more hM, (t2.setOther t4 (Nat.le_refl _) _ _).setOther t4 (Nat.le_refl _) _ _⟩
/-- .. and a fraction in block h. -/
def SF (g B N : Nat) (w : World) (h : Nat) (a b : Int) (W : World) : Prop := S0 g B N w W ∧ B2 h a b W ∧ w.heap.size < h
theorem SF.start (t : S0 g B N w W) (a b : Int) (T : TypeId) : SF g B N w W.heap.size a b (W.alloc (.cells #[.int .i64 a, .int .i64 b] T)) :=
  ⟨t.alloc _, B2.new _ _ _ _, t.2.2.1.2.2.2⟩
theorem SF.keep {M : Nat} {W' : World} (t : SF g B N w h a b W) (hs : Src g B M W') (k : Keep g W W') : SF g B M w h a b W' :=
  ⟨t.1.keep hs k, t.2.1.keep k (by have := t.1.2.2.2; have := t.2.2; omega), t.2.2⟩
theorem SF.next {W' : World} (t : SF g B N w h a b W) (hb : Below W.heap.size W W') : SF g B N w h a b W' := t.keep (t.1.1.next hb) (Keep.of hb (Nat.lt_of_lt_of_le t.1.2.2.2 t.1.2.1.2.1))
theorem SF.alloc (t : SF g B N w h a b W) (o : Obj) : SF g B N w h a b (W.alloc o) := t.next (ext1 _ _)
theorem SF.put {a' b' : Int} {j : Nat} {u : Value} (t : SF g B N w h a b W) (r : B2 h a' b' (W.setCell ⟨h, j, none⟩ u)) : SF g B N w h a' b' (W.setCell ⟨h, j, none⟩ u) := by
  obtain ⟨⟨t1, t2, t3, t4⟩, t5, t6⟩ := t
  exact ⟨⟨t1.setOther (by omega) j u, t2.setOther t4 (by omega) j u, t3.far (by omega) u, t4⟩, r, t6⟩
theorem SF.set0 (t : SF g B N w h a b W) (x : Int) : SF g B N w h x b (W.setCell ⟨h, 0, none⟩ (.int .i64 x)) := t.put (t.2.1.set0 x)
theorem SF.set1 (t : SF g B N w h a b W) (x : Int) : SF g B N w h a x (W.setCell ⟨h, 1, none⟩ (.int .i64 x)) := t.put (t.2.1.set1 x)
end
theorem SF.ret {g B N M : Nat} {w : World} {h : Nat} {a b : Int} {W : World} (t : SF g B N w h a b W) (hM : N ≤ M) (x y : Value) : RetF g B M w (.returned (fracV a b)) ((W.setCell ⟨w.heap.size, 0, none⟩ x).setCell ⟨w.heap.size, 1, none⟩ y) := S0.ret t.1 hM x y a b
theorem l02Make_some (n d : Int) (w : World) (n1 : -9223372036854775807 ≤ n) (n2 : n ≤ 9223372036854775807) (d1 : 1 ≤ d) (d2 : d ≤ 9223372036854775807) :
    Calls Tryz.prog 66 #[.int .i64 n, .int .i64 d] w fun e w' => ∃ u v, e = .returned (fracV u v) ∧ Below w.heap.size w w' :=
  (l02Make_any n d w n1 n2 d1 d2).mono fun _ _ h => ⟨_, _, h⟩
set_option maxHeartbeats 1000000 in
theorem l02Draw_any (g B N : Nat) (w : World) (h : Src g B N w) (hN : N ≤ 900000) :
    Calls Tryz.prog 65 #[.pointer (some ⟨g, 0, none⟩), .int .i64 300] w (RetF g B (N + 8) w) := by
  have T := Lib.hid (S0.start h 34)
  clear h
  go_enter Tryz.func65, Tryz.ntmps65
  go_wp2_with fail
  refine (srcPick_any g B N 601 _ T.out.1 (by omega) (by omega)).mono ?_
  rintro e w1 ⟨x, x1, x2, rfl, S1, K1⟩
  have T := Lib.hid (T.out.keep S1 K1)
  go_wp2_with fail
  refine (srcOne_any g B _ 2 _ T.out.1 (by omega) (by omega)).mono ?_
  rintro e w2 ⟨b, rfl, S2, K2⟩
  have T := Lib.hid (T.out.keep S2 K2)
  clear S1 K1 S2 K2
  cases b
  · go_wp2_with fail
    refine (srcPick_any g B _ 300 _ T.out.1 (by omega) (by omega)).mono ?_
    rintro e w4 ⟨y, y1, y2, rfl, S4, K4⟩
    have T := Lib.hid (T.out.keep S4 K4)
    go_wp2_with fail
    refine (l02Make_some _ _ _ (by omega) (by omega) (by omega) (by omega)).mono ?_
    rintro e w5 ⟨u, v, rfl, hb5⟩
    have T := Lib.hid (T.out.next hb5)
    clear hb5 S4 K4
    obtain ⟨r0, r1, rf, rl⟩ := T.out.2.2.1
    have rf0 := rf 0
    have rf1 := rf 1
    clear rf
    obtain ⟨s0, s1⟩ := set_two r0 r1
    go_wp2
    refine bodyPost_ret ?_ rfl (S0.ret T.out (by omega) _ _ u v)
    simp [results, Tryz.results65, go_sem, s0, s1]
  · go_wp2_with fail
    refine (srcPick_any g B _ 301 _ T.out.1 (by omega) (by omega)).mono ?_
    rintro e w3 ⟨z, z1, z2, rfl, S3, K3⟩
    have T := Lib.hid ((T.out.keep S3 K3))
    clear S3 K3
    go_wp2_with fail
    refine (srcPick_any g B _ 300 _ T.out.1 (by omega) (by omega)).mono ?_
    rintro e w4 ⟨y, y1, y2, rfl, S4, K4⟩
    have T := Lib.hid (T.out.keep S4 K4)
    go_wp2_with fail
    refine (l02Make_some _ _ _ (by omega) (by omega) (by omega) (by omega)).mono ?_
    rintro e w5 ⟨u, v, rfl, hb5⟩
    have T := Lib.hid (T.out.next hb5)
    clear hb5 S4 K4
    obtain ⟨r0, r1, rf, rl⟩ := T.out.2.2.1
    have rf0 := rf 0
    have rf1 := rf 1
    clear rf
    obtain ⟨s0, s1⟩ := set_two r0 r1
    go_wp2
    refine bodyPost_ret ?_ rfl (S0.ret T.out (by omega) _ _ u v)
    simp [results, Tryz.results65, go_sem, s0, s1]
set_option maxHeartbeats 4000000 in
theorem l02Bent_any (g B N : Nat) (w : World) (h : Src g B N w) (hN : N ≤ 900000) :
    Calls Tryz.prog 31 #[.pointer (some ⟨g, 0, none⟩)] w (RetF g B (N + 14) w) := by
  have T := Lib.hid (S0.start h 34)
  clear h
  go_enter Tryz.func31, Tryz.ntmps31
  go_wp2_with fail
  refine (l02Draw_any g B N _ T.out.1 (by omega)).mono ?_
  rintro e w1 ⟨a, b, rfl, S1, K1⟩
  have T := Lib.hid (SF.start (T.out.keep S1 K1) a b 34)
  clear S1 K1
  go_wp2_with fail
  refine (srcPick_any g B _ 20 _ T.out.1.1 (by omega) (by omega)).mono ?_
  rintro e w2 ⟨k, k1, k2, rfl, S2, K2⟩
  have T := Lib.hid (T.out.keep S2 K2)
  clear S2 K2
  by_cases e0 : k = 0
  · skip
    obtain ⟨c0, c1, cf, cl⟩ := T.out.2.1
    have cf0 := cf 0
    have cf1 := cf 1
    clear cf
    have hz := Nat.lt_of_lt_of_le T.out.1.2.2.2 T.out.1.2.1.2.1
    go_wp2_with fail
    refine (srcAmong_any g B _ _ _ [-1000000001, -1000000000, 1000000000, 1000000001, -9223372036854775808] _ (T.out.alloc _).1.1 (by omega) (rd_lit _ _ _ _ rfl) (fun b o e => by injection e with e; injection e; omega) (by simp) (by simp)).mono ?_
    rintro e w3 ⟨x, hx, rfl, S3, K3⟩
    have T := Lib.hid ((T.out.alloc _).keep S3 K3)
    clear c0 c1 cf0 cf1 cl hz
    obtain ⟨c0, c1, cf, cl⟩ := T.out.2.1
    have cf0 := cf 0
    have cf1 := cf 1
    clear cf
    have hz := Nat.lt_of_lt_of_le T.out.1.2.2.2 T.out.1.2.1.2.1
    have T := Lib.hid (T.out.set0 x)
    clear S3 K3 hx
    have T0 := Lib.hid T.out.1
    obtain ⟨d0, d1, df, dl⟩ := T.out.2.1
    obtain ⟨r0, r1, rf, rl⟩ := T0.out.2.2.1
    have rf0 := rf 0
    have rf1 := rf 1
    clear rf df
    obtain ⟨s0, s1⟩ := set_two r0 r1
    go_wp2
    refine bodyPost_ret ?_ rfl (SF.ret T.out (by omega) _ _)
    simp [results, Tryz.results31, go_sem, s0, s1]
  · by_cases e1 : k = 1
    · skip
      obtain ⟨c0, c1, cf, cl⟩ := T.out.2.1
      have cf0 := cf 0
      have cf1 := cf 1
      clear cf
      have hz := Nat.lt_of_lt_of_le T.out.1.2.2.2 T.out.1.2.1.2.1
      go_wp2_with fail
      refine (srcAmong_any g B _ _ _ [-1, 0, 1, 1000000000, 1000000001, 9223372036854775807] _ (T.out.alloc _).1.1 (by omega) (rd_lit _ _ _ _ rfl) (fun b o e => by injection e with e; injection e; omega) (by simp) (by simp)).mono ?_
      rintro e w3 ⟨x, hx, rfl, S3, K3⟩
      have T := Lib.hid ((T.out.alloc _).keep S3 K3)
      clear c0 c1 cf0 cf1 cl hz
      obtain ⟨c0, c1, cf, cl⟩ := T.out.2.1
      have cf0 := cf 0
      have cf1 := cf 1
      clear cf
      have hz := Nat.lt_of_lt_of_le T.out.1.2.2.2 T.out.1.2.1.2.1
      have T := Lib.hid (T.out.set1 x)
      clear S3 K3 hx
      have T0 := Lib.hid T.out.1
      obtain ⟨d0, d1, df, dl⟩ := T.out.2.1
      obtain ⟨r0, r1, rf, rl⟩ := T0.out.2.2.1
      have rf0 := rf 0
      have rf1 := rf 1
      clear rf df
      obtain ⟨s0, s1⟩ := set_two r0 r1
      go_wp2
      refine bodyPost_ret ?_ rfl (SF.ret T.out (by omega) _ _)
      simp [results, Tryz.results31, go_sem, s0, s1]
    · by_cases e2 : k = 2
      · have T0 := Lib.hid T.out.1
        obtain ⟨r0, r1, rf, rl⟩ := T0.out.2.2.1
        have rf0 := rf 0
        have rf1 := rf 1
        clear rf
        obtain ⟨s0, s1⟩ := set_two r0 r1
        go_wp2
        refine bodyPost_ret ?_ rfl (S0.ret T0.out (by omega) _ _ 2 4)
        simp [results, Tryz.results31, go_sem, s0, s1]
      · by_cases e3 : k = 3
        · go_wp2_with fail
          refine (srcPick_any g B _ 5 _ T.out.1.1 (by omega) (by omega)).mono ?_
          rintro e w3 ⟨x, x1, x2, rfl, S3, K3⟩
          have T := Lib.hid (T.out.keep S3 K3)
          go_wp2_with fail
          refine (srcPick_any g B _ 5 _ T.out.1.1 (by omega) (by omega)).mono ?_
          rintro e w4 ⟨y, y1, y2, rfl, S4, K4⟩
          have T := Lib.hid (T.out.keep S4 K4)
          go_wp2_with fail
          refine (l02Make_some _ _ _ (by omega) (by omega) (by omega) (by omega)).mono ?_
          rintro e w5 ⟨u, v, rfl, hb5⟩
          have T := Lib.hid (T.out.next hb5)
          clear hb5 S3 K3 S4 K4
          obtain ⟨c0, c1, cf, cl⟩ := T.out.2.1
          have cf0 := cf 0
          have cf1 := cf 1
          clear cf
          have hz := Nat.lt_of_lt_of_le T.out.1.2.2.2 T.out.1.2.1.2.1
          have T := Lib.hid ((T.out.set0 u).set1 v)
          have T0 := Lib.hid T.out.1
          obtain ⟨d0, d1, df, dl⟩ := T.out.2.1
          obtain ⟨r0, r1, rf, rl⟩ := T0.out.2.2.1
          have rf0 := rf 0
          have rf1 := rf 1
          clear rf df
          obtain ⟨s0, s1⟩ := set_two r0 r1
          go_wp2
          refine bodyPost_ret ?_ rfl (SF.ret T.out (by omega) _ _)
          simp [results, Tryz.results31, go_sem, s0, s1]
        · skip
          obtain ⟨c0, c1, cf, cl⟩ := T.out.2.1
          have cf0 := cf 0
          have cf1 := cf 1
          clear cf
          have hz := Nat.lt_of_lt_of_le T.out.1.2.2.2 T.out.1.2.1.2.1
          have T0 := Lib.hid T.out.1
          obtain ⟨d0, d1, df, dl⟩ := T.out.2.1
          obtain ⟨r0, r1, rf, rl⟩ := T0.out.2.2.1
          have rf0 := rf 0
          have rf1 := rf 1
          clear rf df
          obtain ⟨s0, s1⟩ := set_two r0 r1
          go_wp2
          refine bodyPost_ret ?_ rfl (SF.ret T.out (by omega) _ _)
          simp [results, Tryz.results31, go_sem, s0, s1]
end Go.Proofs.YtjgafjbccfjojaaGreat
namespace Go.Proofs.YtjgafjbccfjojaaGreat
open Go.RowKit Go.Sort
theorem Src.grown {g B N : Nat} {W W' : World} {row : Option Nat} (h : Src g B N W) (hg : W.grownBy W' row) (hr : ∀ k, row = some k → g < k) : Src g B N W' := by
  obtain ⟨A, n, c, bs, k, sd, h0, h1, h2, h3, h4, h5, h6, h7, h8, h9, h10, h11⟩ := h
  have hb : W'.heap[g]? = W.heap[g]? := hg.block g h10 (fun e => by have := hr g e.symm; omega)
  exact ⟨A, n, c, bs, k, sd, (World.cell?_of_block (a := ⟨g, 0, none⟩) hb).trans h0, (World.cell?_of_block (a := ⟨g, 1, none⟩) hb).trans h1, (World.cell?_of_block (a := ⟨g, 2, none⟩) hb).trans h2, h3,
    h4.below ((Below.refl B W).grown hg (by omega) (fun k hk => by have := hr k hk; omega)), h5, h6, h7, h8, fun j => by have := h9 j; simpa only [World.frozen?, hb] using this, Nat.lt_of_lt_of_le h10 hg.size, h11⟩
theorem own_kept {g : Nat} {W W' : World} {base : Nat} {e : TypeId} {size n : Nat} {v : Value} {xs : List Value} (h : W.ownsRow base e size v n xs) (k : Keep g W W') (hg : g < base) : W'.ownsRow base e size v n xs := by
  obtain ⟨h1, h2⟩ := h
  refine ⟨h1, ?_⟩
  rcases h2 with h2 | ⟨b, cap, cur, hv, hb, hh, r⟩
  · exact .inl h2
  · have hlt : b < W.heap.size := (Array.getElem?_eq_some_iff.1 hh).1
    exact .inr ⟨b, cap, cur, hv, hb, (k.2.2 b (by omega) hlt).trans hh, r⟩
theorem news_row1 (w : World) {C : Array Value} (T : TypeId) (vs : List Value) (h : C.toList = vs) : ∀ j u, vs[j]? = some u → (w.alloc (.cells C T)).cell? ((⟨w.heap.size, 0, none⟩ : Addr).add j) = some u := fun j u hu => by
  rw [Addr.add_lit, Nat.zero_add, cell_one, ← Array.getElem?_toList, h]
  exact hu
/-- A list of numbers on its way, and the source. -/
structure SL (g B N : Nat) (w : World) (out : List Int) (v : Value) (W : World) : Prop where
  src : Src g B N W
  keep : Keep g w W
  row : W.ownsRow w.heap.size 2 1 v out.length (out.map (Value.int .i64))
  hg : g < w.heap.size
section
variable {g B N M : Nat} {w W W' : World} {out : List Int} {v : Value}
theorem SL.kept (t : SL g B N w out v W) (hs : Src g B M W') (k : Keep g W W') : SL g B M w out v W' := ⟨hs, t.keep.trans k, own_kept t.row k t.hg, t.hg⟩
theorem SL.next (t : SL g B N w out v W) (hb : Below W.heap.size W W') : SL g B N w out v W' := t.kept (t.src.next hb) (Keep.of hb t.src.lt)
theorem SL.more (t : SL g B N w out v W) (h : N ≤ M) : SL g B M w out v W := ⟨t.src.more h, t.keep, t.row, t.hg⟩
theorem SL.push (t : SL g B N w out v W) {x : Int} {v' : Value} (hown : W'.ownsRow w.heap.size 2 1 v' (out.length + 1) (out.map (Value.int .i64) ++ [.int .i64 x])) (hgr : W.grownBy W' v.ownBlock) : SL g B N w (out ++ [x]) v' W' := by
  have hl := fun k hk => (t.row.lt k hk).1
  refine ⟨t.src.grown hgr (fun k hk => by have := hl k hk; have := t.hg; omega), ⟨?_, Nat.le_trans t.keep.2.1 hgr.size, fun b hb hlt => ?_⟩, by simpa using hown, t.hg⟩
  · exact t.keep.1.grown hgr (by have := t.hg; have := t.keep.2.1; omega) (fun k hk => by have := hl k hk; have := t.hg; omega)
  · exact (hgr.block b (Nat.lt_of_lt_of_le hlt t.keep.2.1) (fun e => by have := hl b e.symm; omega)).trans (t.keep.2.2 b hb hlt)
end
end Go.Proofs.YtjgafjbccfjojaaGreat
namespace Go.Proofs.YtjgafjbccfjojaaGreat
open Go.RowKit Go.Sort
theorem BoxV.keepK {g s : Nat} {vs : List Value} {W W' : World} (h : BoxV g vs W) (k : Keep s W W') (hg : g ≠ s) : BoxV g vs W' :=
  ⟨fun j v hv => (k.cell hg h.lt).trans (h.c j v hv), fun j => (k.frozen hg h.lt).trans (h.f j), Nat.lt_of_lt_of_le h.lt k.2.1⟩
section
variable {N M : Nat} {w W W' : World}
end
@[reducible] def S3 (h1 : Nat) (l c s : Int) (W : World) : Prop := W.cell? ⟨h1, 0, none⟩ = some (.int .i64 l) ∧ W.cell? ⟨h1, 1, none⟩ = some (.int .i64 c) ∧ W.cell? ⟨h1, 2, none⟩ = some (.int .i64 s)
end Go.Proofs.YtjgafjbccfjojaaGreat
