/- XSrcW XCalW XCalDrawW XCalDrawsW in one text. No condition but those that each theorem names. -/
import Derived.Test.YtkimmahmbacjpaaSlices
import Derived.Test.YtkimmahmbacjpaaPutL
import Derived.Laws.BitsLemmas
import Derived.Test.YtkimmahmbacjpaaBase
import Derived.Deep.RegionHeld3
/- The reference's source of numbers: the walks. No condition but those that each theorem names. -/
namespace Go.Proofs.Ytkimmahmbacjpaa
open Go.RowKit Go.Sort

/-- Only block g is written; what is new lies behind. -/
def Keep (g : Nat) (w w' : World) : Prop := Below g w w' ∧ w.heap.size ≤ w'.heap.size ∧ ∀ b, b ≠ g → b < w.heap.size → w'.heap[b]? = w.heap[b]?
theorem Keep.refl (g : Nat) (w : World) : Keep g w w := ⟨Below.refl _ _, Nat.le_refl _, fun _ _ _ => rfl⟩
theorem Keep.trans {g : Nat} {a b c : World} (h : Keep g a b) (k : Keep g b c) : Keep g a c :=
  ⟨h.1.trans k.1, Nat.le_trans h.2.1 k.2.1, fun i hi hl => (k.2.2 i hi (Nat.lt_of_lt_of_le hl h.2.1)).trans (h.2.2 i hi hl)⟩
theorem Keep.set {g : Nat} {a b : World} (h : Keep g a b) (j : Nat) (u : Value) : Keep g a (b.setCell ⟨g, j, none⟩ u) :=
  ⟨h.1.setCell (by exact Nat.le_refl _) u, by simpa using h.2.1, fun i hi hl => (Below.heap_setCell b ⟨g, j, none⟩ u i (by simpa using hi)).trans (h.2.2 i hi hl)⟩
theorem Keep.drew {g : Nat} {a b : World} (h : Keep g a b) : Keep g a b.drew := ⟨h.1.drew, h.2.1, h.2.2⟩
theorem Keep.of {g : Nat} {a b : World} (h : Below a.heap.size a b) (hg : g < a.heap.size) : Keep g a b :=
  ⟨h.mono (Nat.le_of_lt hg), h.size, fun _ _ hl => h.block _ hl⟩
theorem Keep.cell {g : Nat} {a b : World} (h : Keep g a b) {i o : Nat} (hi : i ≠ g) (hl : i < a.heap.size) : b.cell? ⟨i, o, none⟩ = a.cell? ⟨i, o, none⟩ := World.cell?_of_block (h.2.2 i hi hl)
theorem Keep.frozen {g : Nat} {a b : World} (h : Keep g a b) {i o : Nat} (hi : i ≠ g) (hl : i < a.heap.size) : b.frozen? ⟨i, o, none⟩ = a.frozen? ⟨i, o, none⟩ := by simp only [World.frozen?, h.2.2 i hi hl]

/-- A source in block g; N at most is drawn from it. -/
def Src (g B N : Nat) (W : World) : Prop :=
  ∃ (A : Option Addr) (n c : Nat) (bs : List Int) (k : Nat) (sd : Int), W.cell? ⟨g, 0, none⟩ = some (.slice A n c) ∧ W.cell? ⟨g, 1, none⟩ = some (.int .i64 k) ∧ W.cell? ⟨g, 2, none⟩ = some (.int .u64 sd) ∧ k ≤ N ∧
    Rd (Value.int .u8) W B A bs ∧ bs.length = n ∧ n ≤ 1000000 ∧ (∀ x ∈ bs, 0 ≤ x ∧ x ≤ 255) ∧ (0 ≤ sd ∧ sd ≤ 18446744073709551615) ∧ (∀ j, W.frozen? ⟨g, j, none⟩ = false) ∧ g < W.heap.size ∧ B ≤ g
theorem Src.next {g B N : Nat} {W W' : World} (h : Src g B N W) (hb : Below W.heap.size W W') : Src g B N W' := by
  obtain ⟨A, n, c, bs, k, sd, h0, h1, h2, h3, h4, h5, h6, h7, h8, h9, h10, h11⟩ := h
  exact ⟨A, n, c, bs, k, sd, (hb.cell (p := ⟨g, 0, none⟩) h10).trans h0, (hb.cell (p := ⟨g, 1, none⟩) h10).trans h1, (hb.cell (p := ⟨g, 2, none⟩) h10).trans h2, h3, h4.below (hb.mono (by omega)), h5, h6, h7, h8,
    fun j => (hb.frozen (p := ⟨g, j, none⟩) h10).trans (h9 j), Nat.lt_of_lt_of_le h10 hb.size, h11⟩
theorem Src.more {g B N M : Nat} {W : World} (h : Src g B N W) (hm : N ≤ M) : Src g B M W := by
  obtain ⟨A, n, c, bs, k, sd, h0, h1, h2, h3, r⟩ := h
  exact ⟨A, n, c, bs, k, sd, h0, h1, h2, by omega, r⟩
/-- What a draw returns. -/
def RetN (g B N : Nat) (lo hi : Int) (w : World) (e : Ending) (w' : World) : Prop := ∃ x : Int, lo ≤ x ∧ x ≤ hi ∧ e = .returned (.int .i64 x) ∧ Src g B N w' ∧ Keep g w w'

theorem wrapU (n : Int) : 0 ≤ IntKind.u64.wrap n ∧ IntKind.u64.wrap n ≤ 18446744073709551615 := by
  have h : IntKind.u64.wrap n = n % 18446744073709551616 := by simp [IntKind.wrap, IntKind.bits, IntKind.signed]
  rw [h]; omega
theorem mask8 {z : Int} (h0 : 0 ≤ z) (h1 : z ≤ 18446744073709551615) : 0 ≤ wrap64 (bits .and .u64 (z / 1099511627776) 255) ∧ wrap64 (bits .and .u64 (z / 1099511627776) 255) ≤ 255 := by
  have hw : ∀ n : Int, 0 ≤ n → n < 2 ^ 63 → IntKind.u64.wrap n = n := fun n a b => by
    have h : IntKind.u64.wrap n = n % 18446744073709551616 := by simp [IntKind.wrap, IntKind.bits, IntKind.signed]
    rw [h]; omega
  have h := bits_mask .u64 63 (by decide) hw 8 (by decide) (z / 1099511627776) (by omega) (by omega)
  have e : ((2 : Int) ^ 8 - 1) = 255 := by decide
  have e2 : ((2 : Int) ^ 8) = 256 := by decide
  rw [e, e2] at h
  rw [h]
  unfold wrap64
  omega
theorem cell_dn (W : World) (m : Nat) (p : Addr) : (W.drewN m).cell? p = W.cell? p := rfl
theorem Src.put {g B N : Nat} {W : World} (h : Src g B N W) {k : Nat} (_ : W.cell? ⟨g, 1, none⟩ = some (.int .i64 k)) (hN : k ≤ N) (m m' : Nat) {v : Int} (hv : 0 ≤ v ∧ v ≤ 18446744073709551615) :
    Src g B (N + 1) ((((W.drewN m).setCell ⟨g, 1, none⟩ (.int .i64 ((k : Int) + 1))).setCell ⟨g, 2, none⟩ (.int .u64 v)).drewN m') ∧ Keep g W ((((W.drewN m).setCell ⟨g, 1, none⟩ (.int .i64 ((k : Int) + 1))).setCell ⟨g, 2, none⟩ (.int .u64 v)).drewN m') := by
  obtain ⟨A, n, c, bs, k', sd, h0, h1, h2, h3, h4, h5, h6, h7, h8, h9, h10, h11⟩ := h
  have o : ∀ (V : World) (i j : Nat) (u : Value), i ≠ j → (V.setCell ⟨g, i, none⟩ u).cell? ⟨g, j, none⟩ = V.cell? ⟨g, j, none⟩ := fun V i j u hij => World.cell?_setCell_other _ _ _ _ (by intro e; injection e; omega)
  have s : ∀ (V : World) (i : Nat) (u v : Value), V.cell? ⟨g, i, none⟩ = some v → (V.setCell ⟨g, i, none⟩ u).cell? ⟨g, i, none⟩ = some u := fun V i u v hv => World.cell?_setCell_same _ _ _ hv
  have K0 : Keep g W (W.drewN m) := ⟨⟨rfl, rfl, rfl, Nat.le_refl _, fun _ _ => rfl⟩, Nat.le_refl _, fun _ _ _ => rfl⟩
  have K1 := (K0.set 1 (.int .i64 ((k : Int) + 1))).set 2 (.int .u64 v)
  refine ⟨⟨A, n, c, bs, k + 1, v, ?_, ?_, ?_, by omega, (h4.below (K1.1.mono h11)).below ⟨rfl, rfl, rfl, Nat.le_refl _, fun _ _ => rfl⟩, h5, h6, h7, hv, fun j => ?_, ?_, h11⟩, ⟨K1.1.trans ⟨rfl, rfl, rfl, Nat.le_refl _, fun _ _ => rfl⟩, K1.2.1, K1.2.2⟩⟩
  · rw [cell_dn, o _ 2 0 _ (by omega), o _ 1 0 _ (by omega)]; exact h0
  · rw [cell_dn, o _ 2 1 _ (by omega)]; exact (s _ _ _ _ h1)
  · rw [cell_dn]; exact s _ _ _ _ ((o _ 1 2 _ (by omega)).trans h2)
  · exact (World.frozen?_setCell _ _ _ _).trans ((World.frozen?_setCell _ _ _ _).trans (h9 j))
  · have := K1.2.1
    exact Nat.lt_of_lt_of_le h10 this

set_option maxHeartbeats 1000000 in
theorem srcNext_any (g B N : Nat) (w : World) (h : Src g B N w) (hN : N ≤ 1000000000) :
    Calls Try.prog 65 #[.pointer (some ⟨g, 0, none⟩)] w (RetN g B (N + 1) 0 255 w) := by
  obtain ⟨A, n, c, bs, k, sd, h0, h1, h2, h3, h4, h5, h6, h7, h8, h9, h10, h11⟩ := id h
  obtain ⟨d1, d2⟩ := h8
  have hf1 := h9 1
  have hf2 := h9 2
  have HS := Lib.hid h
  clear h h9
  by_cases hlt : k < n
  · obtain ⟨b, off, rfl, hb, hc⟩ := h4 (by omega)
    obtain ⟨x, hxk⟩ : ∃ x, bs[k]? = some x := ⟨_, List.getElem?_eq_getElem (by omega)⟩
    have c1 := hc k x hxk
    obtain ⟨x1, x2⟩ := h7 x (List.mem_of_getElem? hxk)
    have i0 : (0 : Int) ≤ (k : Int) := by omega
    have i1 : (k : Int) < (n : Int) := by omega
    clear hc hxk
    go_enter Try.func65, Try.ntmps65
    go_wp2_with fail
    go_quiet (fail)
    go_wp2_with fail
    go_quiet (fail)
    go_wp2_with fail
    go_quiet (fail)
    go_wp2_with fail
    go_ret
    obtain ⟨r1, r2⟩ := HS.out.put h1 h3 _ _ (wrapU _)
    exact ⟨x, x1, x2, rfl, r1, r2⟩
  · have j1 : ¬ (k : Int) < (n : Int) := by omega
    go_enter Try.func65, Try.ntmps65
    go_wp2_with fail
    go_quiet (fail)
    go_wp2_with fail
    go_quiet (fail)
    go_wp2_with fail
    go_ret
    obtain ⟨r1, r2⟩ := HS.out.put h1 h3 _ _ (wrapU _)
    exact ⟨_, (mask8 (wrapU _).1 (wrapU _).2).1, (mask8 (wrapU _).1 (wrapU _).2).2, rfl, r1, r2⟩
set_option maxHeartbeats 1000000 in
theorem srcPick_any (g B N : Nat) (n : Int) (w : World) (h : Src g B N w) (hN : N ≤ 1000000) (hn : n ≤ 1000000) :
    Calls Try.prog 35 #[.pointer (some ⟨g, 0, none⟩), .int .i64 n] w (RetN g B (N + 2) 0 (max 0 (n - 1)) w) := by
  have HS := Lib.hid h
  clear h
  by_cases h1 : n ≤ 1
  · go_enter Try.func35, Try.ntmps35
    go_wp2
    go_ret
    exact ⟨0, by omega, by omega, rfl, HS.out.more (by omega), Keep.refl _ _⟩
  · have h0 : (n == 0) = false := by simp; omega
    by_cases h2 : 200 < n
    · go_enter Try.func35, Try.ntmps35
      go_wp2_with fail
      refine (srcNext_any g B N _ HS.out (by omega)).mono ?_
      rintro e w1 ⟨x, x1, x2, rfl, S1, K1⟩
      go_wp2_with fail
      refine (srcNext_any g B (N + 1) _ S1 (by omega)).mono ?_
      rintro e w2 ⟨y, y1, y2, rfl, S2, K2⟩
      have q1 := Int.emod_nonneg (x * 256 + y) (show n ≠ 0 by omega)
      have q2 := Int.emod_lt_of_pos (x * 256 + y) (show 0 < n by omega)
      go_wp2
      go_ret
      exact ⟨_, q1, by omega, rfl, S2, K1.trans K2⟩
    · go_enter Try.func35, Try.ntmps35
      go_wp2_with fail
      refine (srcNext_any g B N _ HS.out (by omega)).mono ?_
      rintro e w1 ⟨x, x1, x2, rfl, S1, K1⟩
      have q1 := Int.emod_nonneg x (show n ≠ 0 by omega)
      have q2 := Int.emod_lt_of_pos x (show 0 < n by omega)
      go_wp2
      go_ret
      exact ⟨_, q1, by omega, rfl, S1.more (by omega), K1⟩
theorem srcOne_any (g B N : Nat) (n : Int) (w : World) (h : Src g B N w) (hN : N ≤ 1000000) (hn : n ≤ 1000000) :
    Calls Try.prog 33 #[.pointer (some ⟨g, 0, none⟩), .int .i64 n] w (fun e w' => ∃ b : Bool, e = .returned (.bool b) ∧ Src g B (N + 2) w' ∧ Keep g w w') := by
  have HS := Lib.hid h
  clear h
  go_enter Try.func33, Try.ntmps33
  go_wp2_with fail
  refine (srcPick_any g B N n _ HS.out hN hn).mono ?_
  rintro e w1 ⟨x, x1, x2, rfl, S1, K1⟩
  by_cases h0 : x = 0
  · go_wp2
    go_ret
    exact ⟨_, rfl, S1, K1⟩
  · go_wp2
    go_ret
    exact ⟨_, rfl, S1, K1⟩
theorem srcAmong_any (g B N : Nat) (A : Option Addr) (c : Nat) (xs : List Int) (w : World) (h : Src g B N w) (hN : N ≤ 1000000) (hx : Rd (Value.int .i64) w w.heap.size A xs) (hA : ∀ b o, A = some ⟨b, o, none⟩ → b ≠ g) (h1 : 1 ≤ xs.length) (h2 : xs.length ≤ 100) :
    Calls Try.prog 34 #[.pointer (some ⟨g, 0, none⟩), .slice A xs.length c] w (fun e w' => ∃ x, x ∈ xs ∧ e = .returned (.int .i64 x) ∧ Src g B (N + 2) w' ∧ Keep g w w') := by
  have HS := Lib.hid h
  obtain ⟨b, off, rfl, hb, hc⟩ := hx (by omega)
  have hbg : b ≠ g := hA b off rfl
  have HC := Lib.hid hc
  clear h hc hx hA
  go_enter Try.func34, Try.ntmps34
  go_wp2_with fail
  refine (srcPick_any g B N xs.length _ HS.out hN (by omega)).mono ?_
  rintro e w1 ⟨x, x1, x2, rfl, S1, K1⟩
  obtain ⟨k, rfl⟩ : ∃ k : Nat, x = (k : Int) := ⟨x.toNat, by omega⟩
  have hk : k < xs.length := by omega
  have i0 : (0 : Int) ≤ (k : Int) := by omega
  have i1 : (k : Int) < (xs.length : Int) := by omega
  have c1 := (K1.cell (o := off + k) hbg hb).trans (HC.out k _ (List.getElem?_eq_getElem hk))
  go_wp2
  go_ret
  exact ⟨_, List.getElem_mem hk, rfl, S1, K1⟩
end Go.Proofs.Ytkimmahmbacjpaa

/- The walks of the calendars' small functions. No condition but those that each theorem names. -/
namespace Go.Proofs.Ytkimmahmbacjpaa
open Go.RowKit Go.Sort

@[reducible] def ruleV (l c s : Int) : Value := .agg #[.int .i64 l, .int .i64 c, .int .i64 s]
def befV (l c s y : Int) : Int := (y * l + s) / c
def leapB (l c s y : Int) : Bool := decide (befV l c s y < befV l c s (y + 1))
theorem befV_bd {l c s y : Int} (hl : 0 ≤ l) (hl' : l ≤ c) (hc : 1 ≤ c) (hs : 0 ≤ s) (hs' : s ≤ c - 1) (hy : 0 ≤ y) : 0 ≤ befV l c s y ∧ befV l c s y ≤ y := by
  unfold befV
  have h1 : 0 ≤ y * l := Int.mul_nonneg hy hl
  have h2 : y * l ≤ y * c := Int.mul_le_mul_of_nonneg_left hl' hy
  refine ⟨Int.ediv_nonneg (by omega) (by omega), ?_⟩
  have h3 : (y * l + s) / c < y + 1 := Int.ediv_lt_of_lt_mul (by omega) (by rw [Int.add_mul]; omega)
  omega
theorem befV_step {l c s y : Int} (hl : 0 ≤ l) (hl' : l ≤ c) (hc : 1 ≤ c) : befV l c s y ≤ befV l c s (y + 1) ∧ befV l c s (y + 1) ≤ befV l c s y + 1 := by
  unfold befV
  have e : (y + 1) * l + s = y * l + s + l := by rw [Int.add_mul]; omega
  rw [e]
  constructor
  · exact Int.ediv_le_ediv (by omega) (by omega)
  · have : (y * l + s + l) / c ≤ (y * l + s + c) / c := Int.ediv_le_ediv (by omega) (by omega)
    rw [Int.add_ediv_of_dvd_right (Int.dvd_refl c), Int.ediv_self (by omega)] at this
    exact this

/-- A rule is valid. -/
def ruleOk (l c s : Int) : Bool := inR c 1 1000 && inR l 0 c && inR s 0 (c - 1)
theorem ruleOk_true {l c s : Int} : ruleOk l c s = true ↔ 1 ≤ c ∧ c ≤ 1000 ∧ 0 ≤ l ∧ l ≤ c ∧ 0 ≤ s ∧ s ≤ c - 1 := by
  unfold ruleOk; rw [Bool.and_eq_true, Bool.and_eq_true, inR_true, inR_true, inR_true]; omega
/-- The code of a rule and a year. -/
def yearCode (l c s y : Int) : Int := if ruleOk l c s = true then (if inR y 0 100000 = true then 0 else 2) else 1
theorem yearCode_zero {l c s y : Int} (h : yearCode l c s y = 0) : 0 ≤ l ∧ l ≤ c ∧ 1 ≤ c ∧ c ≤ 1000 ∧ 0 ≤ s ∧ s ≤ c - 1 ∧ 0 ≤ y ∧ y ≤ 100000 := by
  unfold yearCode at h
  split at h
  · split at h
    · rename_i h1 h2
      have h1 := ruleOk_true.1 h1
      have h2 := inR_true.1 h2
      omega
    · cases h
  · cases h


/-- How many days a year has; the code and the number of a day. -/
def daysV (l c s y : Int) : Int := 365 + (befV l c s (y + 1) - befV l c s y)
def dayC (l c s y d : Int) : Int := if yearCode l c s y = 0 then (if inR d 0 (daysV l c s y - 1) = true then 0 else 2) else yearCode l c s y
def dayA (l c s y d : Int) : Int := if dayC l c s y d = 0 then 365 * y + befV l c s y + d else 0

theorem daysV_leap {l c s y : Int} (hl : 0 ≤ l) (hl' : l ≤ c) (hc : 1 ≤ c) : daysV l c s y = if leapB l c s y = true then 366 else 365 := by
  have hst := befV_step (s := s) (y := y) hl hl' hc
  unfold daysV leapB
  split
  · rename_i h
    have h := of_decide_eq_true h
    omega
  · rename_i h
    have h := of_decide_eq_false (Bool.eq_false_iff.2 h)
    omega

end Go.Proofs.Ytkimmahmbacjpaa

/- The draws of the calendars' arguments: the walks. No condition but those that each theorem names. -/
namespace Go.Proofs.Ytkimmahmbacjpaa
open Go.RowKit Go.Sort

theorem Keep.alloc {g : Nat} {a b : World} (h : Keep g a b) (hg : g < a.heap.size) (o : Obj) : Keep g a (b.alloc o) := h.trans (Keep.of (ext1 b o) (Nat.lt_of_lt_of_le hg h.2.1))
theorem Keep.setOther {g : Nat} {a b : World} (h : Keep g a b) (hg : g < a.heap.size) {i : Nat} (hi : a.heap.size ≤ i) (j : Nat) (u : Value) : Keep g a (b.setCell ⟨i, j, none⟩ u) :=
  ⟨h.1.setCell (by simp; omega) u, by simpa using h.2.1, fun k hk hl => (Below.heap_setCell b ⟨i, j, none⟩ u k (by simp; omega)).trans (h.2.2 k hk hl)⟩
theorem Src.setOther {g B N : Nat} {W : World} (h : Src g B N W) {i : Nat} (hi : g < i) (j : Nat) (u : Value) : Src g B N (W.setCell ⟨i, j, none⟩ u) := by
  obtain ⟨A, n, c, bs, k, sd, h0, h1, h2, h3, h4, h5, h6, h7, h8, h9, h10, h11⟩ := h
  have o : ∀ m, (W.setCell ⟨i, j, none⟩ u).cell? ⟨g, m, none⟩ = W.cell? ⟨g, m, none⟩ := fun m => World.cell?_setCell_other _ _ _ _ (by intro e; injection e; omega)
  exact ⟨A, n, c, bs, k, sd, (o 0).trans h0, (o 1).trans h1, (o 2).trans h2, h3, h4.below ((Below.refl _ _).setCell (by simp; omega) u), h5, h6, h7, h8, fun m => (World.frozen?_setCell _ _ _ _).trans (h9 m), by simpa using h10, h11⟩
theorem mul_rngD {x y M K : Int} (x0 : 0 ≤ x) (x1 : x ≤ M) (y0 : 0 ≤ y) (y1 : y ≤ K) : 0 ≤ x * y ∧ x * y ≤ M * K := ⟨Int.mul_nonneg x0 y0, Int.mul_le_mul x1 y1 y0 (by omega)⟩
/-- A new literal slice of integers. -/
theorem rd_lit (W : World) (cs : Array Value) (T : TypeId) (xs : List Int) (h : cs.toList = xs.map (Value.int .i64)) : Rd (Value.int .i64) (W.alloc (.cells cs T)) (W.alloc (.cells cs T)).heap.size (some ⟨W.heap.size, 0, none⟩) xs := fun _ =>
  ⟨W.heap.size, 0, rfl, by simp, fun j x hx => by
    rw [Nat.zero_add, cell_one, ← Array.getElem?_toList, h, List.getElem?_map, hx]; rfl⟩
/-- What a draw of one integer returns, whatever it is. -/
def RetA (g B N : Nat) (w : World) (e : Ending) (w' : World) : Prop := ∃ x : Int, e = .returned (.int .i64 x) ∧ Src g B N w' ∧ Keep g w w'

theorem l00From_any (A : Option Addr) (n c : Nat) (bs : List Int) (w : World) (hx : Rd (Value.int .u8) w w.heap.size A bs) (hl : bs.length = n) (hn : n ≤ 1000000) (hb : ∀ x ∈ bs, 0 ≤ x ∧ x ≤ 255) :
    Calls Try.prog 31 #[.slice A n c] w fun e w' => e = .returned (.pointer (some ⟨w.heap.size, 0, none⟩)) ∧ Src w.heap.size w.heap.size 0 w' ∧ Below w.heap.size w w' := by
  have HX := Lib.hid hx
  have HB := Lib.hid hb
  clear hx hb
  go_enter Try.func31, Try.ntmps31
  go_wp2
  go_ret
  exact ⟨rfl, ⟨A, n, c, bs, 0, 0, by rw [cell_one]; rfl, by rw [cell_one]; rfl, by rw [cell_one]; rfl, by omega, HX.out.below (ext1 _ _), hl, hn, HB.out, by omega, fun j => World.frozen?_alloc_at _ _ _ _ rfl, by simp, Nat.le_refl _⟩, ext1 _ _⟩
/-- A rule in block h. -/
def RB (h : Nat) (l c s : Int) (W : World) : Prop := W.cell? ⟨h, 0, none⟩ = some (.int .i64 l) ∧ W.cell? ⟨h, 1, none⟩ = some (.int .i64 c) ∧ W.cell? ⟨h, 2, none⟩ = some (.int .i64 s) ∧ (∀ j, W.frozen? ⟨h, j, none⟩ = false) ∧ h < W.heap.size
theorem RB.keep {g h : Nat} {l c s : Int} {W W' : World} (hb : RB h l c s W) (k : Keep g W W') (hg : h ≠ g) : RB h l c s W' :=
  ⟨(k.cell hg hb.2.2.2.2).trans hb.1, (k.cell hg hb.2.2.2.2).trans hb.2.1, (k.cell hg hb.2.2.2.2).trans hb.2.2.1, fun j => (k.frozen hg hb.2.2.2.2).trans (hb.2.2.2.1 j), Nat.lt_of_lt_of_le hb.2.2.2.2 k.2.1⟩
theorem RB.new (W : World) (l c s : Int) (T : TypeId) : RB W.heap.size l c s (W.alloc (.cells #[.int .i64 l, .int .i64 c, .int .i64 s] T)) :=
  ⟨by rw [cell_one]; rfl, by rw [cell_one]; rfl, by rw [cell_one]; rfl, fun j => World.frozen?_alloc_at _ _ _ _ rfl, by simp⟩
theorem RB.far {h i : Nat} {l c s : Int} {W : World} (hb : RB h l c s W) (hi : h ≠ i) (j : Nat) (u : Value) : RB h l c s (W.setCell ⟨i, j, none⟩ u) := by
  have o : ∀ m, (W.setCell ⟨i, j, none⟩ u).cell? ⟨h, m, none⟩ = W.cell? ⟨h, m, none⟩ := fun m => World.cell?_setCell_other _ _ _ _ (by intro e; injection e; omega)
  exact ⟨(o 0).trans hb.1, (o 1).trans hb.2.1, (o 2).trans hb.2.2.1, fun m => (World.frozen?_setCell _ _ _ _).trans (hb.2.2.2.1 m), by simpa using hb.2.2.2.2⟩
theorem RB.set0 {h : Nat} {l c s : Int} {W : World} (hb : RB h l c s W) (x : Int) : RB h x c s (W.setCell ⟨h, 0, none⟩ (.int .i64 x)) := by
  have o : ∀ m, m ≠ 0 → (W.setCell ⟨h, 0, none⟩ (.int .i64 x)).cell? ⟨h, m, none⟩ = W.cell? ⟨h, m, none⟩ := fun m hm => World.cell?_setCell_other _ _ _ _ (by intro e; injection e; omega)
  exact ⟨World.cell?_setCell_same _ _ _ hb.1, (o 1 (by omega)).trans hb.2.1, (o 2 (by omega)).trans hb.2.2.1, fun m => (World.frozen?_setCell _ _ _ _).trans (hb.2.2.2.1 m), by simpa using hb.2.2.2.2⟩
theorem RB.set1 {h : Nat} {l c s : Int} {W : World} (hb : RB h l c s W) (x : Int) : RB h l x s (W.setCell ⟨h, 1, none⟩ (.int .i64 x)) := by
  have o : ∀ m, m ≠ 1 → (W.setCell ⟨h, 1, none⟩ (.int .i64 x)).cell? ⟨h, m, none⟩ = W.cell? ⟨h, m, none⟩ := fun m hm => World.cell?_setCell_other _ _ _ _ (by intro e; injection e; omega)
  exact ⟨(o 0 (by omega)).trans hb.1, World.cell?_setCell_same _ _ _ hb.2.1, (o 2 (by omega)).trans hb.2.2.1, fun m => (World.frozen?_setCell _ _ _ _).trans (hb.2.2.2.1 m), by simpa using hb.2.2.2.2⟩
theorem RB.set2 {h : Nat} {l c s : Int} {W : World} (hb : RB h l c s W) (x : Int) : RB h l c x (W.setCell ⟨h, 2, none⟩ (.int .i64 x)) := by
  have o : ∀ m, m ≠ 2 → (W.setCell ⟨h, 2, none⟩ (.int .i64 x)).cell? ⟨h, m, none⟩ = W.cell? ⟨h, m, none⟩ := fun m hm => World.cell?_setCell_other _ _ _ _ (by intro e; injection e; omega)
  exact ⟨(o 0 (by omega)).trans hb.1, (o 1 (by omega)).trans hb.2.1, World.cell?_setCell_same _ _ _ hb.2.2.1, fun m => (World.frozen?_setCell _ _ _ _).trans (hb.2.2.2.1 m), by simpa using hb.2.2.2.2⟩
/-- The state while a rule is drawn: the source in g, the result in w's first new block, the rule in h. -/
def ST (g B N : Nat) (w : World) (h : Nat) (l c s : Int) (W : World) : Prop := Src g B N W ∧ Keep g w W ∧ RB h l c s W ∧ RB w.heap.size 0 0 0 W ∧ w.heap.size < h ∧ g < w.heap.size
section
variable {g B N : Nat} {w : World} {h : Nat} {l c s : Int} {W : World}
theorem ST.keep {M : Nat} {W' : World} (t : ST g B N w h l c s W) (hs : Src g B M W') (k : Keep g W W') : ST g B M w h l c s W' := by
  obtain ⟨t1, t2, t3, t4, t5, t6⟩ := t
  exact ⟨hs, t2.trans k, t3.keep k (by omega), t4.keep k (by omega), t5, t6⟩
theorem ST.alloc (t : ST g B N w h l c s W) (o : Obj) : ST g B N w h l c s (W.alloc o) :=
  t.keep (t.1.next (ext1 _ _)) (Keep.of (ext1 _ _) (Nat.lt_of_lt_of_le t.2.2.2.2.2 t.2.1.2.1))
theorem ST.set {l' c' s' : Int} {j : Nat} {u : Value} (t : ST g B N w h l c s W) (r : RB h l' c' s' (W.setCell ⟨h, j, none⟩ u)) : ST g B N w h l' c' s' (W.setCell ⟨h, j, none⟩ u) := by
  obtain ⟨t1, t2, t3, t4, t5, t6⟩ := t
  exact ⟨t1.setOther (by omega) j u, t2.setOther t6 (by omega) j u, r, t4.far (by omega) j u, t5, t6⟩
theorem ST.set0 (t : ST g B N w h l c s W) (x : Int) : ST g B N w h x c s (W.setCell ⟨h, 0, none⟩ (.int .i64 x)) := t.set (t.2.2.1.set0 x)
theorem ST.set1 (t : ST g B N w h l c s W) (x : Int) : ST g B N w h l x s (W.setCell ⟨h, 1, none⟩ (.int .i64 x)) := t.set (t.2.2.1.set1 x)
theorem ST.set2 (t : ST g B N w h l c s W) (x : Int) : ST g B N w h l c x (W.setCell ⟨h, 2, none⟩ (.int .i64 x)) := t.set (t.2.2.1.set2 x)
theorem ST.start {w1 : World} {T : TypeId} (hg : g < w.heap.size) (hs : Src g B N w1) (k : Keep g (w.alloc (.cells #[.int .i64 0, .int .i64 0, .int .i64 0] T)) w1) (c : Int) (T' : TypeId) : ST g B N w w1.heap.size 0 c 0 (w1.alloc (.cells #[.int .i64 0, .int .i64 c, .int .i64 0] T')) := by
  have h1 := k.2.1
  simp at h1
  have k2 : Keep g w1 (w1.alloc (.cells #[.int .i64 0, .int .i64 c, .int .i64 0] T')) := Keep.of (ext1 _ _) (by omega)
  exact ⟨hs.next (ext1 _ _), (Keep.of (ext1 _ _) hg).trans (k.trans k2), RB.new _ _ _ _ _, ((RB.new w 0 0 0 T).keep k (by omega)).keep k2 (by omega), by omega, hg⟩
/-- What a draw of a rule returns. -/
def RetRule (g B N : Nat) (w : World) (e : Ending) (w' : World) : Prop := ∃ l c s : Int, e = .returned (ruleV l c s) ∧ Src g B N w' ∧ Keep g w w'
theorem ST.ret {M : Nat} (t : ST g B N w h l c s W) (hM : N ≤ M) (x y z : Value) : RetRule g B M w (.returned (ruleV l c s)) (((W.setCell ⟨w.heap.size, 0, none⟩ x).setCell ⟨w.heap.size, 1, none⟩ y).setCell ⟨w.heap.size, 2, none⟩ z) := by
  obtain ⟨t1, t2, t3, t4, t5, t6⟩ := t
  exact ⟨l, c, s, rfl, (((t1.setOther t6 _ _).setOther t6 _ _).setOther t6 _ _).more hM, ((t2.setOther t6 (Nat.le_refl _) _ _).setOther t6 (Nat.le_refl _) _ _).setOther t6 (Nat.le_refl _) _ _⟩
end
theorem set_three {w : World} {b : Nat} {x y z : Value} (h0 : w.cell? ⟨b, 0, none⟩ = some x) (h1 : w.cell? ⟨b, 1, none⟩ = some y) (h2 : w.cell? ⟨b, 2, none⟩ = some z) :
    (∀ v, (w.setCell ⟨b, 0, none⟩ v).cell? ⟨b, 0, none⟩ = some v) ∧ (∀ u v, ((w.setCell ⟨b, 0, none⟩ u).setCell ⟨b, 1, none⟩ v).cell? ⟨b, 1, none⟩ = some v) ∧ (∀ t u v, (((w.setCell ⟨b, 0, none⟩ t).setCell ⟨b, 1, none⟩ u).setCell ⟨b, 2, none⟩ v).cell? ⟨b, 2, none⟩ = some v) :=
  ⟨fun v => World.cell?_setCell_same _ _ _ h0, fun u v => World.cell?_setCell_same (v := v) _ _ ((World.cell?_setCell_other _ ⟨b, 0, none⟩ ⟨b, 1, none⟩ _ (by simp)).trans h1),
   fun t u v => World.cell?_setCell_same (v := v) _ _ ((World.cell?_setCell_other _ ⟨b, 1, none⟩ ⟨b, 2, none⟩ _ (by simp)).trans ((World.cell?_setCell_other _ ⟨b, 0, none⟩ ⟨b, 2, none⟩ _ (by simp)).trans h2))⟩
end Go.Proofs.Ytkimmahmbacjpaa

/- What the calendars' statements draw from a code of bytes: the walks. No condition but those that each theorem names. -/
namespace Go.Proofs.Ytkimmahmbacjpaa
open Go.RowKit Go.Sort

/-- A code of bytes. -/
def Bytes (w : World) (A : Option Addr) (n : Nat) : Prop := ∃ bs : List Int, Rd (Value.int .u8) w w.heap.size A bs ∧ bs.length = n ∧ n ≤ 1000000 ∧ ∀ x ∈ bs, 0 ≤ x ∧ x ≤ 255
theorem Bytes.next {w w' : World} {A : Option Addr} {n : Nat} (h : Bytes w A n) (hb : Below w.heap.size w w') : Bytes w' A n := by
  obtain ⟨bs, h1, h2⟩ := h
  exact ⟨bs, (h1.below hb).more hb.size, h2⟩
theorem l00From_bytes (A : Option Addr) (n c : Nat) (w : World) (h : Bytes w A n) :
    Calls Try.prog 31 #[.slice A n c] w fun e w' => e = .returned (.pointer (some ⟨w.heap.size, 0, none⟩)) ∧ Src w.heap.size w.heap.size 0 w' ∧ Below w.heap.size w w' := by
  obtain ⟨bs, h1, h2, h3, h4⟩ := h
  exact l00From_any A n c bs w h1 h2 h3 h4
/-- The rule's cells in block h, held while others are written. -/
def RS (h : Nat) (l c s : Int) (V W : World) : Prop := W.cell? ⟨h, 0, none⟩ = some (.int .i64 l) ∧ W.cell? ⟨h, 1, none⟩ = some (.int .i64 c) ∧ W.cell? ⟨h, 2, none⟩ = some (.int .i64 s) ∧ h < W.heap.size ∧ V.heap.size ≤ W.heap.size
theorem RS.keep {g h : Nat} {l c s : Int} {V W W' : World} (t : RS h l c s V W) (k : Keep g W W') (hg : h ≠ g) : RS h l c s V W' :=
  ⟨(k.cell hg t.2.2.2.1).trans t.1, (k.cell hg t.2.2.2.1).trans t.2.1, (k.cell hg t.2.2.2.1).trans t.2.2.1, Nat.lt_of_lt_of_le t.2.2.2.1 k.2.1, Nat.le_trans t.2.2.2.2 k.2.1⟩
theorem RS.set {h i j : Nat} {u : Value} {l c s : Int} {V W : World} (t : RS h l c s V W) (hi : h ≠ i) : RS h l c s V (W.setCell ⟨i, j, none⟩ u) := by
  have o : ∀ m, (W.setCell ⟨i, j, none⟩ u).cell? ⟨h, m, none⟩ = W.cell? ⟨h, m, none⟩ := fun m => World.cell?_setCell_other _ _ _ _ (by intro e; injection e; omega)
  exact ⟨(o 0).trans t.1, (o 1).trans t.2.1, (o 2).trans t.2.2.1, by simpa using t.2.2.2.1, by simpa using t.2.2.2.2⟩
end Go.Proofs.Ytkimmahmbacjpaa
