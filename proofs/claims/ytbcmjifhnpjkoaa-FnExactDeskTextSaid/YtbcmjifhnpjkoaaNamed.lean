/- Slices of named terms: how they read; the statements' own measuring, copying and comparing of them. No condition but those that each theorem names. -/
import Derived.Test.YtbcmjifhnpjkoaaSlices
namespace Go.Proofs.Ytbcmjifhnpjkoaa
open Go.RowKit Go.Sort

/-- A name with its terms. -/
structure Nd where
  name : ByteArray
  terms : List Int
instance : Inhabited Nd := ⟨⟨ByteArray.empty, []⟩⟩
/-- How many bytes and numbers it has. -/
def Nd.sz (x : Nd) : Nat := x.name.size + x.terms.length
def ndTot (xs : List Nd) : Nat := (xs.map Nd.sz).sum
/-- No part is greater than memory. -/
def Nd.fits (x : Nd) : Prop := x.name.size ≤ maxLen ∧ x.terms.length ≤ maxLen
@[reducible] def ndV (s : ByteArray) (T : Option Addr) (n c : Nat) : Value := .agg #[.string s, .slice T n c]

theorem ndTot_snoc {xs : List Nd} {k : Nat} {x : Nd} (h : xs[k]? = some x) : ndTot (xs.take (k + 1)) = ndTot (xs.take k) + x.sz := by
  unfold ndTot
  rw [List.take_add_one, h]
  simp
theorem ndTot_take_le (xs : List Nd) (k : Nat) : ndTot (xs.take k) ≤ ndTot xs := by
  have h2 := congrArg List.sum (List.take_append_drop k (xs.map Nd.sz))
  rw [List.sum_append] at h2
  unfold ndTot
  rw [List.map_take, ← h2]
  omega

theorem nd_le {xs : List Nd} {x : Nd} (h : x ∈ xs) : x.name.size + x.terms.length ≤ ndTot xs := by
  induction xs with
  | nil => cases h
  | cons y ys ih =>
    have e : ndTot (y :: ys) = y.sz + ndTot ys := by simp [ndTot]
    rw [e]
    rcases List.mem_cons.1 h with rfl | h
    · unfold Nd.sz; omega
    · have := ih h; omega
theorem Rd.next {α : Type} {enc : α → Value} {w w' : World} {A : Option Addr} {xs : List α} (h : Rd enc w w.heap.size A xs) (hb : Below w.heap.size w w') : Rd enc w' w'.heap.size A xs := (h.below hb).more hb.size
/-- A slice of integers with its capacity. -/
def RdT (w : World) (B : Nat) (T : Option Addr) (c : Nat) (xs : List Int) : Prop := Rd (Value.int .i64) w B T xs ∧ xs.length ≤ c ∧ c ≤ maxLen
def WrT (w : World) (B : Nat) (T : Option Addr) (c : Nat) (xs : List Int) : Prop := Wr (Value.int .i64) w B T xs ∧ xs.length ≤ c ∧ c ≤ maxLen
section
variable {w w' : World} {B B' : Nat} {T : Option Addr} {c : Nat} {xs : List Int}
theorem RdT.below (h : RdT w B T c xs) (hb : Below B w w') : RdT w' B T c xs := ⟨h.1.below hb, h.2⟩
theorem RdT.more (h : RdT w B T c xs) (hB : B ≤ B') : RdT w B' T c xs := ⟨h.1.more hB, h.2⟩
theorem RdT.next (h : RdT w w.heap.size T c xs) (hb : Below w.heap.size w w') : RdT w' w'.heap.size T c xs := ⟨h.1.next hb, h.2⟩
theorem WrT.rd (h : WrT w B T c xs) : RdT w w.heap.size T c xs := ⟨h.1.rd, h.2⟩
theorem WrT.more (h : WrT w B T c xs) (hB : B' ≤ B) : WrT w B' T c xs := ⟨h.1.more hB, h.2⟩
theorem WrT.below (h : WrT w B T c xs) (hb : Below w.heap.size w w') : WrT w' B T c xs := ⟨h.1.below hb, h.2⟩
theorem WrT.setLow (h : WrT w B T c xs) {p : Addr} (hp : p.block < B) (u : Value) : WrT (w.setCell p u) B T c xs := ⟨h.1.setLow hp u, h.2⟩
end
/-- A slice's address leads to named terms, in a block below B; so do their terms. -/
def RdN (w : World) (B : Nat) (A : Option Addr) (xs : List Nd) : Prop :=
  0 < xs.length → ∃ b off, A = some ⟨b, off, none⟩ ∧ b < B ∧ ∀ j x, xs[j]? = some x → ∃ T c, w.cell? ⟨b, off + j * 2, none⟩ = some (.string x.name) ∧ w.cell? ⟨b, off + j * 2 + 1, none⟩ = some (.slice T x.terms.length c) ∧ RdT w B T c x.terms
section
variable {w w' : World} {B B' : Nat} {A : Option Addr} {xs : List Nd}
theorem RdN.below (h : RdN w B A xs) (hb : Below B w w') : RdN w' B A xs := fun hn => by
  obtain ⟨b, off, e, hlt, hc⟩ := h hn
  refine ⟨b, off, e, hlt, fun j x hx => ?_⟩
  obtain ⟨T, c, h1, h2, h3⟩ := hc j x hx
  exact ⟨T, c, (hb.cell (p := ⟨b, off + j * 2, none⟩) hlt).trans h1, (hb.cell (p := ⟨b, off + j * 2 + 1, none⟩) hlt).trans h2, h3.below hb⟩
theorem RdN.more (h : RdN w B A xs) (hB : B ≤ B') : RdN w B' A xs := fun hn => by
  obtain ⟨b, off, e, hlt, hc⟩ := h hn
  refine ⟨b, off, e, by omega, fun j x hx => ?_⟩
  obtain ⟨T, c, h1, h2, h3⟩ := hc j x hx
  exact ⟨T, c, h1, h2, h3.more hB⟩
/-- Behind a call. -/
theorem RdN.next (h : RdN w w.heap.size A xs) (hb : Below w.heap.size w w') : RdN w' w'.heap.size A xs := (h.below hb).more hb.size
end
/-- .. in blocks from base on. -/
def WrN (w : World) (base : Nat) (A : Option Addr) (xs : List Nd) : Prop :=
  0 < xs.length → ∃ b off, A = some ⟨b, off, none⟩ ∧ base ≤ b ∧ b < w.heap.size ∧ ∀ j x, xs[j]? = some x → ∃ T c, w.cell? ⟨b, off + j * 2, none⟩ = some (.string x.name) ∧ w.cell? ⟨b, off + j * 2 + 1, none⟩ = some (.slice T x.terms.length c) ∧ WrT w base T c x.terms
section
variable {w w' : World} {B B' : Nat} {A : Option Addr} {xs : List Nd}
theorem WrN.rd (h : WrN w B A xs) : RdN w w.heap.size A xs := fun hn => by
  obtain ⟨b, off, e, _, hlt, hc⟩ := h hn
  refine ⟨b, off, e, hlt, fun j x hx => ?_⟩
  obtain ⟨T, c, h1, h2, h3⟩ := hc j x hx
  exact ⟨T, c, h1, h2, h3.rd⟩
theorem WrN.more (h : WrN w B A xs) (hB : B' ≤ B) : WrN w B' A xs := fun hn => by
  obtain ⟨b, off, e, hl, hlt, hc⟩ := h hn
  refine ⟨b, off, e, by omega, hlt, fun j x hx => ?_⟩
  obtain ⟨T, c, h1, h2, h3⟩ := hc j x hx
  exact ⟨T, c, h1, h2, h3.more hB⟩
theorem WrN.setLow (h : WrN w B A xs) {p : Addr} (hp : p.block < B) (u : Value) : WrN (w.setCell p u) B A xs := fun hn => by
  obtain ⟨b, off, e, hl, hlt, hc⟩ := h hn
  refine ⟨b, off, e, hl, by simpa using hlt, fun j x hx => ?_⟩
  obtain ⟨T, c, h1, h2, h3⟩ := hc j x hx
  refine ⟨T, c, (World.cell?_setCell_other w p _ u ?_).trans h1, (World.cell?_setCell_other w p _ u ?_).trans h2, h3.setLow hp u⟩
  all_goals (intro e; subst e; exact absurd hp (Nat.not_lt.2 hl))
end

theorem szNamed_any (x : Nd) (T : Option Addr) (c : Nat) (left : Int) (w : World) (hx : x.fits) (h0 : 0 ≤ left) (h1 : left ≤ 1048576) :
    Calls Try.prog 151 #[ndV x.name T x.terms.length c, .int .i64 left] w fun e w' => e = .returned (.int .i64 (if (x.sz : Int) ≤ left then left - x.sz else -1)) ∧ Below w.heap.size w w' := by
  obtain ⟨f1, f2⟩ := hx
  have ez : x.sz = x.name.size + x.terms.length := rfl
  generalize x.sz = z at *
  generalize x.name = s at *
  generalize x.terms = ts at *
  obtain ⟨z1, z2⟩ : z ≤ s.size + ts.length ∧ s.size + ts.length ≤ z := by omega
  clear ez
  have f1' := f1
  unfold maxLen at f1'
  unfold ndV
  by_cases hs : (s.size : Int) ≤ left
  · have hs0 : 0 ≤ left - s.size := by omega
    by_cases h : (z : Int) ≤ left
    · rw [if_pos h]
      have HZ : Hid (∀ W, Calls Try.prog 161 #[.slice T ts.length c, .int .i64 (left - s.size)] W fun e w' => e = .returned (.int .i64 (left - z)) ∧ W = w') := fun W => by
        have := szInt64S_any T c ts.length (left - s.size) W f2 hs0 (by omega)
        rw [if_pos (by omega), show left - (s.size : Int) - ts.length = left - z by omega] at this
        exact this
      have h2 : 0 ≤ left - z := by omega
      go_enter Try.func151, Try.ntmps151
      go_wp2_with fail
      refine (HZ.out _).mono ?_
      rintro e w' ⟨rfl, rfl⟩
      go_wp2
      go_ret
      exact ⟨ret_int (by omega), ext1 _ _⟩
    · rw [if_neg h]
      have HZ : Hid (∀ W, Calls Try.prog 161 #[.slice T ts.length c, .int .i64 (left - s.size)] W fun e w' => e = .returned (.int .i64 (-1)) ∧ W = w') := fun W => by
        have := szInt64S_any T c ts.length (left - s.size) W f2 hs0 (by omega)
        rw [if_neg (by omega)] at this
        exact this
      go_enter Try.func151, Try.ntmps151
      go_wp2_with fail
      refine (HZ.out _).mono ?_
      rintro e w' ⟨rfl, rfl⟩
      go_wp2
      go_ret
      exact ⟨rfl, ext1 _ _⟩
  · rw [if_neg (by omega)]
    go_enter Try.func151, Try.ntmps151
    go_wp2
    go_ret
    exact ⟨rfl, ext1 _ _⟩

theorem szNamedS_any (A : Option Addr) (c : Nat) (xs : List Nd) (left : Int) (w : World) (hr : RdN w w.heap.size A xs) (hf : ∀ x ∈ xs, x.fits) (hn : xs.length ≤ maxLen) (h0 : 0 ≤ left) (h1 : left ≤ 1048576) :
    Calls Try.prog 93 #[.slice A xs.length c, .int .i64 left] w fun e w' => e = .returned (.int .i64 (if ((xs.length + ndTot xs : Nat) : Int) ≤ left then left - (xs.length + ndTot xs : Nat) else -1)) ∧ Below w.heap.size w w' := by
  unfold maxLen at hn
  have HF := Lib.hid hf
  clear hf
  by_cases hlen : (xs.length : Int) ≤ left
  · obtain ⟨R, hR⟩ : ∃ R : Int, (if ((xs.length + ndTot xs : Nat) : Int) ≤ left then left - (xs.length + ndTot xs : Nat) else -1) = R := ⟨_, rfl⟩
    rw [hR]
    have HR := Lib.hid hR
    clear hR
    have hd0 : 0 ≤ left - (xs.length : Int) := by omega
    go_enter Try.func93, Try.ntmps93
    go_wp2_with fail
    go_loopw [5, 1] (fun t u wr => ∃ (k : Nat) (m : Int), k ≤ xs.length ∧ t = .int .i64 k ∧ u = .int .i64 m ∧ 0 ≤ m ∧ m ≤ 1048576 ∧ Hid (m = left - (xs.length + ndTot (xs.take k) : Nat)) ∧ Below w.heap.size w wr) (fun t _ _ => xs.length - (intOf t).toNat)
    case atStart => exact ⟨0, _, by omega, rfl, rfl, by omega, by omega, by unfold Hid; simp [ndTot], Below.refl _ _⟩
    case round =>
      obtain ⟨k, m, hk, rfl, rfl, m0, m1, HM, hbe⟩ := hrel
      by_cases hlt : k < xs.length
      · obtain ⟨b, off, rfl, hb, hc⟩ := (hr.next hbe) (by omega)
        obtain ⟨x, hxk⟩ : ∃ x, xs[k]? = some x := ⟨_, List.getElem?_eq_getElem hlt⟩
        obtain ⟨T, ct, c1, c2, c3⟩ := hc k x hxk
        have hfx := HF.out x (List.mem_of_getElem? hxk)
        have HS := Lib.hid (ndTot_snoc hxk)
        have htk := ndTot_take_le xs (k + 1)
        clear hc hxk c3
        have i0 : (0 : Int) ≤ (k : Int) := by omega
        have i1 : (k : Int) < (xs.length : Int) := by omega
        have HC := Lib.hid (szNamed_any x T ct m · hfx m0 m1)
        by_cases hle : (x.sz : Int) ≤ m
        · rw [if_pos hle] at HC
          have hm2 : 0 ≤ m - x.sz := by omega
          go_wp2_with fail
          refine (HC.out _).mono ?_
          rintro e w2 ⟨rfl, hb2⟩
          go_wp2
          go_roundw
          case rel => exact ⟨k + 1, _, by omega, by go_num, rfl, by omega, by omega, by have := HM.out; have := HS.out; unfold Hid; omega, ext_trans hbe hb2⟩
          case measure => simp [intOf]; omega
        · rw [if_neg hle] at HC
          have HE : Hid (R = -1) := by
            have h := HR.out
            have := HM.out; have := HS.out
            rw [if_neg (by omega)] at h
            exact h.symm
          clear htk
          go_wp2_with fail
          refine (HC.out _).mono ?_
          rintro e w2 ⟨rfl, hb2⟩
          go_wp2
          go_ret
          exact ⟨ret_int HE.out.symm, ext_trans hbe hb2⟩
      · have HE : Hid (R = m) := by
          have h := HR.out
          have h2 := HM.out
          rw [List.take_of_length_le (by omega)] at h2
          rw [if_pos (by omega)] at h
          show R = m
          omega
        go_wp2
        go_ret
        exact ⟨ret_int HE.out.symm, hbe⟩
  · rw [if_neg (by omega)]
    go_enter Try.func93, Try.ntmps93
    go_wp2
    go_ret
    exact ⟨rfl, Below.refl _ _⟩

theorem szDesk_any (A : Option Addr) (c : Nat) (xs : List Nd) (left : Int) (w : World) (hr : RdN w w.heap.size A xs) (hf : ∀ x ∈ xs, x.fits) (hn : xs.length ≤ maxLen) (h0 : 0 ≤ left) (h1 : left ≤ 1048576) :
    Calls Try.prog 30 #[.agg #[.slice A xs.length c], .int .i64 left] w fun e w' => e = .returned (.int .i64 (if ((xs.length + ndTot xs : Nat) : Int) ≤ left then left - (xs.length + ndTot xs : Nat) else -1)) ∧ Below w.heap.size w w' := by
  have HC : Hid (∀ o : Obj, Calls Try.prog 93 #[.slice A xs.length c, .int .i64 left] (w.alloc o) fun e w' => e = .returned (.int .i64 (if ((xs.length + ndTot xs : Nat) : Int) ≤ left then left - (xs.length + ndTot xs : Nat) else -1)) ∧ Below (w.alloc o).heap.size (w.alloc o) w') :=
    fun o => szNamedS_any A c xs left _ (hr.next (ext1 w o)) hf hn h0 h1
  by_cases hle : ((xs.length + ndTot xs : Nat) : Int) ≤ left
  · rw [if_pos hle] at HC ⊢
    have h2 : 0 ≤ left - (xs.length + ndTot xs : Nat) := by omega
    go_enter Try.func30, Try.ntmps30
    go_wp2_with fail
    refine (HC.out _).mono ?_
    rintro e w2 ⟨rfl, hb2⟩
    go_wp2
    go_ret
    exact ⟨rfl, ext_trans (ext1 _ _) hb2⟩
  · rw [if_neg hle] at HC ⊢
    go_enter Try.func30, Try.ntmps30
    go_wp2_with fail
    refine (HC.out _).mono ?_
    rintro e w2 ⟨rfl, hb2⟩
    go_wp2
    go_ret
    exact ⟨rfl, ext_trans (ext1 _ _) hb2⟩

theorem infoNd : (Try.prog.info? 109).map (fun i => (i.zero, i.size, i.bytes)) = some (some (ndV ByteArray.empty none 0 0), 2, 40) := by kernel_rfl

set_option maxHeartbeats 400000 in
theorem toNamed_any (x : Nd) (T : Option Addr) (c : Nat) (w : World) (hx : Rd (Value.int .i64) w w.heap.size T x.terms) (hl : x.terms.length ≤ 1048576) :
    Calls Try.prog 152 #[ndV x.name T x.terms.length c] w fun e w' => ∃ B d, e = .returned (ndV x.name B x.terms.length d) ∧ WrT w' w.heap.size B d x.terms ∧ Below w.heap.size w w' := by
  generalize x.name = s at *
  generalize x.terms = xs at *
  have hx3 : ∀ o1 o2 o3 : Obj, Rd (Value.int .i64) (((w.alloc o1).alloc o2).alloc o3) (((w.alloc o1).alloc o2).alloc o3).heap.size T xs := fun o1 o2 o3 => (hx.below (ext_alloc (ext_alloc (ext_alloc (Below.refl _ _) o1) o2) o3)).more (by simp; omega)
  have HX := Lib.hid hx3
  clear hx3
  unfold ndV
  go_enter Try.func152, Try.ntmps152
  go_wp2_with fail
  refine (toInt64S_cap T c xs _ (HX.out _ _ _) hl).mono ?_
  rintro e w1 ⟨B, rfl, hw, hb1⟩
  obtain ⟨hc1, hf1⟩ := bcell hb1
  have hy1 := hb1.size
  (try simp at hy1)
  have hz0 : w.heap.size < w1.heap.size := by omega
  have hz1 : w.heap.size + 1 < w1.heap.size := by omega
  have hz2 : w.heap.size + 1 + 1 < w1.heap.size := by omega
  go_wp2
  refine bodyPost_ret (v := ndV s B xs.length xs.length) (by simp [results, Try.results152, go_sem, hc1]) rfl ⟨B, _, rfl, ⟨?_, Nat.le_refl _, by unfold maxLen; omega⟩, ?_⟩
  · exact (((hw.setLow (by simp) _).setLow (by simp) _).setLow (by simp) _).more (by simp; omega)
  · exact ext_set (ext_set (ext_set (ext_trans (ext_alloc (ext_alloc (ext_alloc (Below.refl _ _) _) _) _) hb1) (by simp; omega) _) (by simp) _) (by simp) _

/-- What a copy holds up to k: its cells, its terms in blocks of their own. -/
def CpN (w : World) (h : Nat) (xs : List Nd) (k : Nat) (W : World) : Prop :=
  (∀ j x, j < k → xs[j]? = some x → ∃ T c, W.cell? ⟨h, j * 2, none⟩ = some (.string x.name) ∧ W.cell? ⟨h, j * 2 + 1, none⟩ = some (.slice T x.terms.length c) ∧ WrT W (h + 1) T c x.terms) ∧
  (∀ j, j < xs.length * 2 → ∃ v, W.cell? ⟨h, j, none⟩ = some v) ∧ (∀ j, W.frozen? ⟨h, j, none⟩ = false) ∧ Below w.heap.size w W ∧ h < W.heap.size
theorem CpN.step {w W W' : World} {h : Nat} {xs : List Nd} {k : Nat} {x : Nd} {T : Option Addr} {c : Nat} (hc : CpN w h xs k W) (hw : w.heap.size ≤ h) (hk : k < xs.length) (hx : xs[k]? = some x) (hb : Below W.heap.size W W') (hT : WrT W' W.heap.size T c x.terms) :
    CpN w h xs (k + 1) ((W'.setCell ⟨h, k * 2, none⟩ (.string x.name)).setCell ⟨h, k * 2 + 1, none⟩ (.slice T x.terms.length c)) := by
  obtain ⟨h1, h2, h3, h4, h5⟩ := hc
  have h5' : h < W'.heap.size := Nat.lt_of_lt_of_le h5 hb.size
  have cell : ∀ j, W'.cell? ⟨h, j, none⟩ = W.cell? ⟨h, j, none⟩ := fun j => hb.cell (p := ⟨h, j, none⟩) h5
  obtain ⟨v0, hv0⟩ := h2 (k * 2) (by omega)
  obtain ⟨v1, hv1⟩ := h2 (k * 2 + 1) (by omega)
  refine ⟨fun j y hj hy => ?_, fun j hj => ?_, fun j => ?_, ?_, by simpa using h5'⟩
  · rcases Nat.lt_or_ge j k with g | g
    · obtain ⟨T', c', e1, e2, e3⟩ := h1 j y g hy
      refine ⟨T', c', ?_, ?_, ?_⟩
      · exact (World.cell?_setCell_other _ _ _ _ (by simp <;> omega)).trans ((World.cell?_setCell_other _ _ _ _ (by simp <;> omega)).trans ((cell _).trans e1))
      · exact (World.cell?_setCell_other _ _ _ _ (by simp <;> omega)).trans ((World.cell?_setCell_other _ _ _ _ (by simp <;> omega)).trans ((cell _).trans e2))
      · exact ((e3.below hb).setLow (by simp) _).setLow (by simp) _
    · obtain rfl : j = k := by omega
      obtain rfl := Option.some.inj (hx.symm.trans hy)
      refine ⟨T, c, ?_, ?_, ((hT.more (by omega)).setLow (by simp) _).setLow (by simp) _⟩
      · exact (World.cell?_setCell_other _ _ _ _ (by simp)).trans (World.cell?_setCell_same _ _ _ ((cell _).trans hv0))
      · exact World.cell?_setCell_same _ _ _ ((World.cell?_setCell_other _ _ _ _ (by simp)).trans ((cell _).trans hv1))
  · obtain ⟨v, hv⟩ := h2 j hj
    by_cases e1 : j = k * 2 + 1
    · subst e1; exact ⟨_, World.cell?_setCell_same _ _ _ ((World.cell?_setCell_other _ _ _ _ (by simp)).trans ((cell _).trans hv1))⟩
    · by_cases e2 : j = k * 2
      · subst e2; exact ⟨_, (World.cell?_setCell_other _ _ _ _ (by simp)).trans (World.cell?_setCell_same _ _ _ ((cell _).trans hv0))⟩
      · exact ⟨v, (World.cell?_setCell_other _ _ _ _ (by simp <;> omega)).trans ((World.cell?_setCell_other _ _ _ _ (by simp <;> omega)).trans ((cell _).trans hv))⟩
  · exact (World.frozen?_setCell _ _ _ _).trans ((World.frozen?_setCell _ _ _ _).trans ((hb.frozen (p := ⟨h, j, none⟩) h5).trans (h3 j)))
  · exact ((h4.trans (hb.mono h4.size)).setCell (by exact hw) _).setCell (by exact hw) _

set_option maxHeartbeats 1000000 in
theorem toNamedS_any (A : Option Addr) (c : Nat) (xs : List Nd) (w : World) (hr : RdN w w.heap.size A xs) (hf : ∀ x ∈ xs, x.terms.length ≤ 1048576) (hl : xs.length ≤ 1048576) :
    Calls Try.prog 95 #[.slice A xs.length c] w fun e w' => ∃ B d, e = .returned (.slice B xs.length d) ∧ WrN w' w.heap.size B xs ∧ Below w.heap.size w w' := by
  obtain ⟨i0, hi, hz0, hz1, hz2⟩ := info_parts infoNd
  have HFT := Lib.hid hf
  clear hf
  have hmk : ∀ W : World, (Instr.makeSlice 50 (.int .i64 (xs.length : Int)) (.int .i64 (xs.length : Int))).run Try.prog W = .ok (.slice (some ⟨W.heap.size, 0, none⟩) xs.length xs.length) (W.alloc (.cells (madeCells #[.string ByteArray.empty, .slice none 0 0] (xs.length * 2)) 109)) := fun W => by
    have h := run_make (P := Try.prog) W 50 109 i0 _ Try.underlying50 hi hz0 .i64 .i64 (xs.length : Int) (xs.length : Int) (by omega) (by omega) (by rw [hz2]; omega) (by omega)
    rw [hz1] at h
    simpa [Value.cells] using h
  go_enter Try.func95, Try.ntmps95
  go_wp2_with fail
  have hms : (madeCells #[.string ByteArray.empty, .slice none 0 0] (xs.length * 2)).size = xs.length * 2 := size_madeCells _ _
  obtain ⟨W, hW, hC⟩ : ∃ W, W = w.alloc (.cells (madeCells #[.string ByteArray.empty, .slice none 0 0] (xs.length * 2)) 109) ∧ CpN w w.heap.size xs 0 W :=
    ⟨_, rfl, fun _ _ h => absurd h (by omega), fun j hj => madeCell (by rw [hms]; exact hj), fun j => World.frozen?_alloc_at _ _ _ _ rfl, ext1 _ _, by simp⟩
  rw [← hW]
  clear hW hms
  have HC := Lib.hid hC
  clear hC hmk
  go_loopw [4] (fun t wr => ∃ i : Nat, i ≤ xs.length ∧ t = .int .i64 i ∧ Hid (CpN w w.heap.size xs i wr)) (fun t _ => xs.length - (intOf t).toNat)
  case atStart => exact ⟨0, by omega, rfl, HC.out⟩
  case round =>
    obtain ⟨i, hi', rfl, HR⟩ := hrel
    clear HC
    have hbe := HR.out.2.2.2.1
    have hzr := HR.out.2.2.2.2
    by_cases hlt : i < xs.length
    · obtain ⟨b, off, rfl, hb, hc⟩ := hr (by omega)
      obtain ⟨x, hxi⟩ : ∃ x, xs[i]? = some x := ⟨_, List.getElem?_eq_getElem hlt⟩
      obtain ⟨T, ct, c1, c2, c3⟩ := hc i x hxi
      have c1 := (hbe.cell (p := ⟨b, off + i * 2, none⟩) hb).trans c1
      have c2 := (hbe.cell (p := ⟨b, off + i * 2 + 1, none⟩) hb).trans c2
      have c3 := c3.next hbe
      have HX := Lib.hid hxi
      have HTN := Lib.hid (toNamed_any x T ct wr c3.1 (HFT.out x (List.mem_of_getElem? hxi)))
      obtain ⟨v0, hv0⟩ := HR.out.2.1 (i * 2) (by omega)
      obtain ⟨v1, hv1⟩ := HR.out.2.1 (i * 2 + 1) (by omega)
      have hf0 := HR.out.2.2.1 (i * 2)
      have hf1 := HR.out.2.2.1 (i * 2 + 1)
      clear hc hxi c3
      have i0 : (0 : Int) ≤ (i : Int) := by omega
      have i1 : (i : Int) < (xs.length : Int) := by omega
      go_wp2_with fail
      refine HTN.out.mono ?_
      rintro e w2 ⟨B, d, rfl, hw2, hb2⟩
      have hv0' := (hb2.cell (p := ⟨w.heap.size, i * 2, none⟩) hzr).trans hv0
      have hv1' := (hb2.cell (p := ⟨w.heap.size, i * 2 + 1, none⟩) hzr).trans hv1
      have hf0' := (hb2.frozen (p := ⟨w.heap.size, i * 2, none⟩) hzr).trans hf0
      have hf1' := (hb2.frozen (p := ⟨w.heap.size, i * 2 + 1, none⟩) hzr).trans hf1
      go_wp2
      go_roundw
      case rel => exact ⟨i + 1, by omega, by go_num, CpN.step HR.out (Nat.le_refl _) hlt HX.out hb2 hw2⟩
      case measure => simp [intOf]; omega
    · go_wp2
      go_ret
      obtain ⟨r1, r2, r3, r4, r5⟩ := HR.out
      refine ⟨_, _, rfl, fun _ => ⟨w.heap.size, 0, rfl, Nat.le_refl _, r5, fun j x hx => ?_⟩, r4⟩
      obtain ⟨T, ct, e1, e2, e3⟩ := r1 j x (by have := (List.getElem?_eq_some_iff.1 hx).1; omega) hx
      rw [Nat.zero_add]
      exact ⟨T, ct, e1, e2, e3.more (by omega)⟩

theorem toDesk_any (A : Option Addr) (c : Nat) (xs : List Nd) (w : World) (hr : RdN w w.heap.size A xs) (hf : ∀ x ∈ xs, x.terms.length ≤ 1048576) (hl : xs.length ≤ 1048576) :
    Calls Try.prog 32 #[.agg #[.slice A xs.length c]] w fun e w' => ∃ B d, e = .returned (.agg #[.slice B xs.length d]) ∧ WrN w' w.heap.size B xs ∧ Below w.heap.size w w' := by
  have hx3 : ∀ o1 o2 o3 : Obj, RdN (((w.alloc o1).alloc o2).alloc o3) (((w.alloc o1).alloc o2).alloc o3).heap.size A xs := fun o1 o2 o3 => (hr.below (ext_alloc (ext_alloc (ext_alloc (Below.refl _ _) o1) o2) o3)).more (by simp; omega)
  have HX := Lib.hid hx3
  have HF := Lib.hid hf
  clear hx3 hf
  go_enter Try.func32, Try.ntmps32
  go_wp2_with fail
  refine (toNamedS_any A c xs _ (HX.out _ _ _) HF.out hl).mono ?_
  rintro e w1 ⟨B, d, rfl, hw, hb1⟩
  obtain ⟨hc1, hf1⟩ := bcell hb1
  have hy1 := hb1.size
  (try simp at hy1)
  have hz0 : w.heap.size < w1.heap.size := by omega
  have hz1 : w.heap.size + 1 < w1.heap.size := by omega
  have hz2 : w.heap.size + 1 + 1 < w1.heap.size := by omega
  go_wp2
  refine bodyPost_ret (v := .agg #[.slice B xs.length d]) (by simp [results, Try.results32, go_sem, hc1]) rfl ⟨B, d, rfl, ?_, ?_⟩
  · exact ((hw.setLow (by simp) _).setLow (by simp) _).more (by simp; omega)
  · exact ext_set (ext_set (ext_trans (ext_alloc (ext_alloc (ext_alloc (Below.refl _ _) _) _) _) hb1) (by simp; omega) _) (by simp) _

theorem eqNamed_any (x : Nd) (A B : Option Addr) (c d : Nat) (w : World) (hx : Rd (Value.int .i64) w w.heap.size A x.terms) (hy : Rd (Value.int .i64) w w.heap.size B x.terms) (hm : x.terms.length ≤ maxLen) :
    Calls Try.prog 153 #[ndV x.name A x.terms.length c, ndV x.name B x.terms.length d] w fun e w' => e = .returned (.bool true) ∧ Below w.heap.size w w' := by
  have hx2 : ∀ o1 o2 : Obj, Rd (Value.int .i64) ((w.alloc o1).alloc o2) ((w.alloc o1).alloc o2).heap.size A x.terms := fun o1 o2 => (hx.below (ext_alloc (ext_alloc (Below.refl _ _) o1) o2)).more (by simp; omega)
  have hy2 : ∀ o1 o2 : Obj, Rd (Value.int .i64) ((w.alloc o1).alloc o2) ((w.alloc o1).alloc o2).heap.size B x.terms := fun o1 o2 => (hy.below (ext_alloc (ext_alloc (Below.refl _ _) o1) o2)).more (by simp; omega)
  have HX := Lib.hid hx2
  have HY := Lib.hid hy2
  clear hx2 hy2 hx hy
  generalize x.name = s at *
  generalize x.terms = xs at *
  unfold ndV
  go_enter Try.func153, Try.ntmps153
  go_wp2_with fail
  refine (eqInt64S_any A B c d xs xs _ (HX.out _ _) (HY.out _ _) hm hm).mono ?_
  rintro e w1 ⟨rfl, hb1⟩
  go_wp2
  go_ret
  exact ⟨rfl, ext_trans (ext_alloc (ext_alloc (Below.refl _ _) _) _) hb1⟩

set_option maxHeartbeats 400000 in
theorem eqNamedS_any (A B : Option Addr) (c d : Nat) (xs : List Nd) (w : World) (hx : RdN w w.heap.size A xs) (hy : RdN w w.heap.size B xs) (hf : ∀ x ∈ xs, x.terms.length ≤ maxLen) (hl : xs.length ≤ 1048576) :
    Calls Try.prog 99 #[.slice A xs.length c, .slice B xs.length d] w fun e w' => e = .returned (.bool true) ∧ Below w.heap.size w w' := by
  have HF := Lib.hid hf
  clear hf
  have hl0 : ((xs.length : Int) != (xs.length : Int)) = false := by simp
  go_enter Try.func99, Try.ntmps99
  go_wp2_with fail
  go_loopw [5] (fun t wr => ∃ k : Nat, k ≤ xs.length ∧ t = .int .i64 k ∧ Below w.heap.size w wr) (fun t _ => xs.length - (intOf t).toNat)
  case atStart => exact ⟨0, by omega, rfl, Below.refl _ _⟩
  case round =>
    obtain ⟨k, hk, rfl, hbe⟩ := hrel
    by_cases hlt : k < xs.length
    · obtain ⟨b, off, rfl, hb, hc⟩ := (hx.next hbe) (by omega)
      obtain ⟨b', off', rfl, hb', hc'⟩ := (hy.next hbe) (by omega)
      obtain ⟨x, hxk⟩ : ∃ x, xs[k]? = some x := ⟨_, List.getElem?_eq_getElem hlt⟩
      obtain ⟨T, ct, c1, c2, c3⟩ := hc k x hxk
      obtain ⟨T', ct', d1, d2, d3⟩ := hc' k x hxk
      have HC := Lib.hid (fun W hb => eqNamed_any x T T' ct ct' W (c3.1.next (w' := W) hb) (d3.1.next hb) (HF.out x (List.mem_of_getElem? hxk)))
      clear hc hc' hxk c3 d3
      have i0 : (0 : Int) ≤ (k : Int) := by omega
      have i1 : (k : Int) < (xs.length : Int) := by omega
      have k0 : ∀ x os, (grow (redrawn wr x) os).cell? ⟨b, off + k * 2, none⟩ = _ := cell_regrown c1
      have k1 : ∀ x os, (grow (redrawn wr x) os).cell? ⟨b, off + k * 2 + 1, none⟩ = _ := cell_regrown c2
      have k2 : ∀ x os, (grow (redrawn wr x) os).cell? ⟨b', off' + k * 2, none⟩ = _ := cell_regrown d1
      have k3 : ∀ x os, (grow (redrawn wr x) os).cell? ⟨b', off' + k * 2 + 1, none⟩ = _ := cell_regrown d2
      go_wp2_with fail
      refine wp_region_quiet_below (by kernel_rfl) (by kernel_rfl) ?_
      repeat (first | go_big_quiet_step ((with_reducible exact Calls.regrown_of (HC.out _ (below_regrown _ _ _)))) | quiet_step ((with_reducible exact Calls.regrown_of (HC.out _ (below_regrown _ _ _)))))
      refine wpQuiet_nil ?_
      intro _ hw'
      obtain ⟨⟨dq, oq⟩, hw''⟩ := hw'
      subst hw''
      go_wp2
      go_roundw
      case rel => exact ⟨k + 1, by omega, by go_num, ext_trans hbe (below_regrown _ _ _)⟩
      case measure => simp [intOf]; omega
    · go_wp2
      go_ret
      exact ⟨rfl, hbe⟩

theorem eqDesk_any (A B : Option Addr) (c d : Nat) (xs : List Nd) (w : World) (hx : RdN w w.heap.size A xs) (hy : RdN w w.heap.size B xs) (hf : ∀ x ∈ xs, x.terms.length ≤ maxLen) (hl : xs.length ≤ 1048576) :
    Calls Try.prog 34 #[.agg #[.slice A xs.length c], .agg #[.slice B xs.length d]] w fun e w' => e = .returned (.bool true) ∧ Below w.heap.size w w' := by
  have HC := Lib.hid (fun o1 o2 : Obj => eqNamedS_any A B c d xs ((w.alloc o1).alloc o2) (hx.next (ext_alloc (ext1 _ _) _)) (hy.next (ext_alloc (ext1 _ _) _)) hf hl)
  clear hx hy hf
  go_enter Try.func34, Try.ntmps34
  go_wp2_with fail
  refine (HC.out _ _).mono ?_
  rintro e w1 ⟨rfl, hb1⟩
  go_wp2
  go_ret
  exact ⟨rfl, ext_trans (ext_alloc (ext_alloc (Below.refl _ _) _) _) hb1⟩
end Go.Proofs.Ytbcmjifhnpjkoaa
