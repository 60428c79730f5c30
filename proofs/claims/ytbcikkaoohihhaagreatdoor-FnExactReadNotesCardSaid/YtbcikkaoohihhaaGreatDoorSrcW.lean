/- The reference's source of numbers: the walks. No condition but those that each theorem names. -/
import Derived.Test.YtbcikkaoohihhaaGreatDoorMrA
import Derived.Laws.BitsLemmas
namespace Go.Proofs.YtbcikkaoohihhaaGreatDoor
open Go.RowKit Go.Sort

/-- Only block g is written; what is new lies behind. -/
def Keep (g : Nat) (w w' : World) : Prop := Below g w w' ∧ w.heap.size ≤ w'.heap.size ∧ ∀ b, b ≠ g → b < w.heap.size → w'.heap[b]? = w.heap[b]?
theorem Keep.refl (g : Nat) (w : World) : Keep g w w := ⟨Below.refl _ _, Nat.le_refl _, fun _ _ _ => rfl⟩
theorem Keep.trans {g : Nat} {a b c : World} (h : Keep g a b) (k : Keep g b c) : Keep g a c :=
  ⟨h.1.trans k.1, Nat.le_trans h.2.1 k.2.1, fun i hi hl => (k.2.2 i hi (Nat.lt_of_lt_of_le hl h.2.1)).trans (h.2.2 i hi hl)⟩
theorem Keep.set {g : Nat} {a b : World} (h : Keep g a b) (j : Nat) (u : Value) : Keep g a (b.setCell ⟨g, j, none⟩ u) :=
  ⟨h.1.setCell (by exact Nat.le_refl _) u, by simpa using h.2.1, fun i hi hl => (Below.heap_setCell b ⟨g, j, none⟩ u i (by simpa using hi)).trans (h.2.2 i hi hl)⟩
theorem Keep.drew {g : Nat} {a b : World} (h : Keep g a b) : Keep g a b.drew := ⟨h.1.drew, h.2.1, h.2.2⟩
theorem Keep.of {g : Nat} {a b : World} (h : Below a.heap.size a b) (hg : g < a.heap.size) : Keep g a b :=
  ⟨h.mono (Nat.le_of_lt hg), h.size, fun _ _ hl => h.block _ hl⟩
theorem Keep.cell {g : Nat} {a b : World} (h : Keep g a b) {i o : Nat} (hi : i ≠ g) (hl : i < a.heap.size) : b.cell? ⟨i, o, none⟩ = a.cell? ⟨i, o, none⟩ := World.cell?_of_block (h.2.2 i hi hl)
theorem Keep.frozen {g : Nat} {a b : World} (h : Keep g a b) {i o : Nat} (hi : i ≠ g) (hl : i < a.heap.size) : b.frozen? ⟨i, o, none⟩ = a.frozen? ⟨i, o, none⟩ := by simp only [World.frozen?, h.2.2 i hi hl]

/-- A source in block g; N at most is drawn from it. -/
def Src (g B N : Nat) (W : World) : Prop :=
  ∃ (A : Option Addr) (n c : Nat) (bs : List Int) (k : Nat) (sd : Int), W.cell? ⟨g, 0, none⟩ = some (.slice A n c) ∧ W.cell? ⟨g, 1, none⟩ = some (.int .i64 k) ∧ W.cell? ⟨g, 2, none⟩ = some (.int .u64 sd) ∧ k ≤ N ∧
    Rd (Value.int .u8) W B A bs ∧ bs.length = n ∧ n ≤ 1000000 ∧ (∀ x ∈ bs, 0 ≤ x ∧ x ≤ 255) ∧ (0 ≤ sd ∧ sd ≤ 18446744073709551615) ∧ (∀ j, W.frozen? ⟨g, j, none⟩ = false) ∧ g < W.heap.size ∧ B ≤ g
theorem Src.next {g B N : Nat} {W W' : World} (h : Src g B N W) (hb : Below W.heap.size W W') : Src g B N W' := by
  obtain ⟨A, n, c, bs, k, sd, h0, h1, h2, h3, h4, h5, h6, h7, h8, h9, h10, h11⟩ := h
  exact ⟨A, n, c, bs, k, sd, (hb.cell (p := ⟨g, 0, none⟩) h10).trans h0, (hb.cell (p := ⟨g, 1, none⟩) h10).trans h1, (hb.cell (p := ⟨g, 2, none⟩) h10).trans h2, h3, h4.below (hb.mono (by omega)), h5, h6, h7, h8,
    fun j => (hb.frozen (p := ⟨g, j, none⟩) h10).trans (h9 j), Nat.lt_of_lt_of_le h10 hb.size, h11⟩
theorem Src.more {g B N M : Nat} {W : World} (h : Src g B N W) (hm : N ≤ M) : Src g B M W := by
  obtain ⟨A, n, c, bs, k, sd, h0, h1, h2, h3, r⟩ := h
  exact ⟨A, n, c, bs, k, sd, h0, h1, h2, by omega, r⟩
/-- What a draw returns. -/
def RetN (g B N : Nat) (lo hi : Int) (w : World) (e : Ending) (w' : World) : Prop := ∃ x : Int, lo ≤ x ∧ x ≤ hi ∧ e = .returned (.int .i64 x) ∧ Src g B N w' ∧ Keep g w w'

theorem wrapU (n : Int) : 0 ≤ IntKind.u64.wrap n ∧ IntKind.u64.wrap n ≤ 18446744073709551615 := by
  have h : IntKind.u64.wrap n = n % 18446744073709551616 := by simp [IntKind.wrap, IntKind.bits, IntKind.signed]
  rw [h]; omega
theorem mask8 {z : Int} (h0 : 0 ≤ z) (h1 : z ≤ 18446744073709551615) : 0 ≤ wrap64 (bits .and .u64 (z / 1099511627776) 255) ∧ wrap64 (bits .and .u64 (z / 1099511627776) 255) ≤ 255 := by
  have hw : ∀ n : Int, 0 ≤ n → n < 2 ^ 63 → IntKind.u64.wrap n = n := fun n a b => by
    have h : IntKind.u64.wrap n = n % 18446744073709551616 := by simp [IntKind.wrap, IntKind.bits, IntKind.signed]
    rw [h]; omega
  have h := bits_mask .u64 63 (by decide) hw 8 (by decide) (z / 1099511627776) (by omega) (by omega)
  have e : ((2 : Int) ^ 8 - 1) = 255 := by decide
  have e2 : ((2 : Int) ^ 8) = 256 := by decide
  rw [e, e2] at h
  rw [h]
  unfold wrap64
  omega
theorem cell_dn (W : World) (m : Nat) (p : Addr) : (W.drewN m).cell? p = W.cell? p := rfl
theorem Src.put {g B N : Nat} {W : World} (h : Src g B N W) {k : Nat} (_ : W.cell? ⟨g, 1, none⟩ = some (.int .i64 k)) (hN : k ≤ N) (m m' : Nat) {v : Int} (hv : 0 ≤ v ∧ v ≤ 18446744073709551615) :
    Src g B (N + 1) ((((W.drewN m).setCell ⟨g, 1, none⟩ (.int .i64 ((k : Int) + 1))).setCell ⟨g, 2, none⟩ (.int .u64 v)).drewN m') ∧ Keep g W ((((W.drewN m).setCell ⟨g, 1, none⟩ (.int .i64 ((k : Int) + 1))).setCell ⟨g, 2, none⟩ (.int .u64 v)).drewN m') := by
  obtain ⟨A, n, c, bs, k', sd, h0, h1, h2, h3, h4, h5, h6, h7, h8, h9, h10, h11⟩ := h
  have o : ∀ (V : World) (i j : Nat) (u : Value), i ≠ j → (V.setCell ⟨g, i, none⟩ u).cell? ⟨g, j, none⟩ = V.cell? ⟨g, j, none⟩ := fun V i j u hij => World.cell?_setCell_other _ _ _ _ (by intro e; injection e; omega)
  have s : ∀ (V : World) (i : Nat) (u v : Value), V.cell? ⟨g, i, none⟩ = some v → (V.setCell ⟨g, i, none⟩ u).cell? ⟨g, i, none⟩ = some u := fun V i u v hv => World.cell?_setCell_same _ _ _ hv
  have K0 : Keep g W (W.drewN m) := ⟨⟨rfl, rfl, rfl, Nat.le_refl _, fun _ _ => rfl⟩, Nat.le_refl _, fun _ _ _ => rfl⟩
  have K1 := (K0.set 1 (.int .i64 ((k : Int) + 1))).set 2 (.int .u64 v)
  refine ⟨⟨A, n, c, bs, k + 1, v, ?_, ?_, ?_, by omega, (h4.below (K1.1.mono h11)).below ⟨rfl, rfl, rfl, Nat.le_refl _, fun _ _ => rfl⟩, h5, h6, h7, hv, fun j => ?_, ?_, h11⟩, ⟨K1.1.trans ⟨rfl, rfl, rfl, Nat.le_refl _, fun _ _ => rfl⟩, K1.2.1, K1.2.2⟩⟩
  · rw [cell_dn, o _ 2 0 _ (by omega), o _ 1 0 _ (by omega)]; exact h0
  · rw [cell_dn, o _ 2 1 _ (by omega)]; exact (s _ _ _ _ h1)
  · rw [cell_dn]; exact s _ _ _ _ ((o _ 1 2 _ (by omega)).trans h2)
  · exact (World.frozen?_setCell _ _ _ _).trans ((World.frozen?_setCell _ _ _ _).trans (h9 j))
  · have := K1.2.1
    exact Nat.lt_of_lt_of_le h10 this

set_option maxHeartbeats 1000000 in
theorem srcNext_any (g B N : Nat) (w : World) (h : Src g B N w) (hN : N ≤ 1000000000) :
    Calls Tryz.prog 116 #[.pointer (some ⟨g, 0, none⟩)] w (RetN g B (N + 1) 0 255 w) := by
  obtain ⟨A, n, c, bs, k, sd, h0, h1, h2, h3, h4, h5, h6, h7, h8, h9, h10, h11⟩ := id h
  obtain ⟨d1, d2⟩ := h8
  have hf1 := h9 1
  have hf2 := h9 2
  have HS := Lib.hid h
  clear h h9
  by_cases hlt : k < n
  · obtain ⟨b, off, rfl, hb, hc⟩ := h4 (by omega)
    obtain ⟨x, hxk⟩ : ∃ x, bs[k]? = some x := ⟨_, List.getElem?_eq_getElem (by omega)⟩
    have c1 := hc k x hxk
    obtain ⟨x1, x2⟩ := h7 x (List.mem_of_getElem? hxk)
    have i0 : (0 : Int) ≤ (k : Int) := by omega
    have i1 : (k : Int) < (n : Int) := by omega
    clear hc hxk
    go_enter Tryz.func116, Tryz.ntmps116
    go_wp2_with fail
    go_quiet (fail)
    go_wp2_with fail
    go_quiet (fail)
    go_wp2_with fail
    go_quiet (fail)
    go_wp2_with fail
    go_ret
    obtain ⟨r1, r2⟩ := HS.out.put h1 h3 _ _ (wrapU _)
    exact ⟨x, x1, x2, rfl, r1, r2⟩
  · have j1 : ¬ (k : Int) < (n : Int) := by omega
    go_enter Tryz.func116, Tryz.ntmps116
    go_wp2_with fail
    go_quiet (fail)
    go_wp2_with fail
    go_quiet (fail)
    go_wp2_with fail
    go_ret
    obtain ⟨r1, r2⟩ := HS.out.put h1 h3 _ _ (wrapU _)
    exact ⟨_, (mask8 (wrapU _).1 (wrapU _).2).1, (mask8 (wrapU _).1 (wrapU _).2).2, rfl, r1, r2⟩
set_option maxHeartbeats 1000000 in
theorem srcPick_any (g B N : Nat) (n : Int) (w : World) (h : Src g B N w) (hN : N ≤ 1000000) (hn : n ≤ 1000000) :
    Calls Tryz.prog 69 #[.pointer (some ⟨g, 0, none⟩), .int .i64 n] w (RetN g B (N + 2) 0 (max 0 (n - 1)) w) := by
  have HS := Lib.hid h
  clear h
  by_cases h1 : n ≤ 1
  · go_enter Tryz.func69, Tryz.ntmps69
    go_wp2
    go_ret
    exact ⟨0, by omega, by omega, rfl, HS.out.more (by omega), Keep.refl _ _⟩
  · have h0 : (n == 0) = false := by simp; omega
    by_cases h2 : 200 < n
    · go_enter Tryz.func69, Tryz.ntmps69
      go_wp2_with fail
      refine (srcNext_any g B N _ HS.out (by omega)).mono ?_
      rintro e w1 ⟨x, x1, x2, rfl, S1, K1⟩
      go_wp2_with fail
      refine (srcNext_any g B (N + 1) _ S1 (by omega)).mono ?_
      rintro e w2 ⟨y, y1, y2, rfl, S2, K2⟩
      have q1 := Int.emod_nonneg (x * 256 + y) (show n ≠ 0 by omega)
      have q2 := Int.emod_lt_of_pos (x * 256 + y) (show 0 < n by omega)
      go_wp2
      go_ret
      exact ⟨_, q1, by omega, rfl, S2, K1.trans K2⟩
    · go_enter Tryz.func69, Tryz.ntmps69
      go_wp2_with fail
      refine (srcNext_any g B N _ HS.out (by omega)).mono ?_
      rintro e w1 ⟨x, x1, x2, rfl, S1, K1⟩
      have q1 := Int.emod_nonneg x (show n ≠ 0 by omega)
      have q2 := Int.emod_lt_of_pos x (show 0 < n by omega)
      go_wp2
      go_ret
      exact ⟨_, q1, by omega, rfl, S1.more (by omega), K1⟩
theorem srcOne_any (g B N : Nat) (n : Int) (w : World) (h : Src g B N w) (hN : N ≤ 1000000) (hn : n ≤ 1000000) :
    Calls Tryz.prog 63 #[.pointer (some ⟨g, 0, none⟩), .int .i64 n] w (fun e w' => ∃ b : Bool, e = .returned (.bool b) ∧ Src g B (N + 2) w' ∧ Keep g w w') := by
  have HS := Lib.hid h
  clear h
  go_enter Tryz.func63, Tryz.ntmps63
  go_wp2_with fail
  refine (srcPick_any g B N n _ HS.out hN hn).mono ?_
  rintro e w1 ⟨x, x1, x2, rfl, S1, K1⟩
  by_cases h0 : x = 0
  · go_wp2
    go_ret
    exact ⟨_, rfl, S1, K1⟩
  · go_wp2
    go_ret
    exact ⟨_, rfl, S1, K1⟩
theorem srcAmong_any (g B N : Nat) (A : Option Addr) (c : Nat) (xs : List Int) (w : World) (h : Src g B N w) (hN : N ≤ 1000000) (hx : Rd (Value.int .i64) w w.heap.size A xs) (hA : ∀ b o, A = some ⟨b, o, none⟩ → b ≠ g) (h1 : 1 ≤ xs.length) (h2 : xs.length ≤ 100) :
    Calls Tryz.prog 90 #[.pointer (some ⟨g, 0, none⟩), .slice A xs.length c] w (fun e w' => ∃ x, x ∈ xs ∧ e = .returned (.int .i64 x) ∧ Src g B (N + 2) w' ∧ Keep g w w') := by
  have HS := Lib.hid h
  obtain ⟨b, off, rfl, hb, hc⟩ := hx (by omega)
  have hbg : b ≠ g := hA b off rfl
  have HC := Lib.hid hc
  clear h hc hx hA
  go_enter Tryz.func90, Tryz.ntmps90
  go_wp2_with fail
  refine (srcPick_any g B N xs.length _ HS.out hN (by omega)).mono ?_
  rintro e w1 ⟨x, x1, x2, rfl, S1, K1⟩
  obtain ⟨k, rfl⟩ : ∃ k : Nat, x = (k : Int) := ⟨x.toNat, by omega⟩
  have hk : k < xs.length := by omega
  have i0 : (0 : Int) ≤ (k : Int) := by omega
  have i1 : (k : Int) < (xs.length : Int) := by omega
  have c1 := (K1.cell (o := off + k) hbg hb).trans (HC.out k _ (List.getElem?_eq_getElem hk))
  go_wp2
  go_ret
  exact ⟨_, List.getElem_mem hk, rfl, S1, K1⟩
end Go.Proofs.YtbcikkaoohihhaaGreatDoor
