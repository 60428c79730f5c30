/- Slices of notes: how they read; the statements' own measuring, copying and comparing of them. No condition but those that each theorem names. -/
import Derived.Test.YtmgfceiomfiknaaDoorNamed
import Derived.Test.YtmgfceiomfiknaaDoorFracW
import Derived.Test.YtmgfceiomfiknaaDoorErrW
import Derived.Test.YtmgfceiomfiknaaDoorPutL
namespace Go.Proofs.YtmgfceiomfiknaaDoor
open Go.RowKit Go.Sort

/-- A note. -/
structure Nt where
  name : ByteArray
  kind : Int
  num : Int
  den : Int
  terms : List Int
  sp : Int
  sd : Int
  sq : Int
instance : Inhabited Nt := ⟨⟨ByteArray.empty, 0, 0, 0, [], 0, 0, 0⟩⟩
def Nt.sz (x : Nt) : Nat := x.name.size + x.terms.length
def ntTot (xs : List Nt) : Nat := (xs.map Nt.sz).sum
def Nt.fits (x : Nt) : Prop := x.name.size ≤ maxLen ∧ x.terms.length ≤ maxLen
def ntC (x : Nt) (T : Option Addr) (c : Nat) : List Value := [.string x.name, .int .i64 x.kind, .int .i64 x.num, .int .i64 x.den, .slice T x.terms.length c, .int .i64 x.sp, .int .i64 x.sd, .int .i64 x.sq]
@[reducible] def ntV (s : ByteArray) (k n d : Int) (T : Option Addr) (l c : Nat) (p e q : Int) : Value := .agg #[.string s, .int .i64 k, .int .i64 n, .int .i64 d, .slice T l c, .int .i64 p, .int .i64 e, .int .i64 q]
@[reducible] def surdV (p d q : Int) : Value := .agg #[.int .i64 p, .int .i64 d, .int .i64 q]

theorem ntTot_snoc {xs : List Nt} {k : Nat} {x : Nt} (h : xs[k]? = some x) : ntTot (xs.take (k + 1)) = ntTot (xs.take k) + x.sz := by
  unfold ntTot
  rw [List.take_add_one, h]
  simp
theorem ntTot_take_le (xs : List Nt) (k : Nat) : ntTot (xs.take k) ≤ ntTot xs := by
  have h2 := congrArg List.sum (List.take_append_drop k (xs.map Nt.sz))
  rw [List.sum_append] at h2
  unfold ntTot
  rw [List.map_take, ← h2]
  omega
theorem nt_le {xs : List Nt} {x : Nt} (h : x ∈ xs) : x.name.size + x.terms.length ≤ ntTot xs := by
  induction xs with
  | nil => cases h
  | cons y ys ih =>
    have e : ntTot (y :: ys) = y.sz + ntTot ys := by simp [ntTot]
    rw [e]
    rcases List.mem_cons.1 h with rfl | h
    · unfold Nt.sz; omega
    · have := ih h; omega

/-- Values that lie in a row of block b from o on. -/
def RowAt (w : World) (b o : Nat) (vs : List Value) : Prop := ∀ i v, vs[i]? = some v → w.cell? ⟨b, o + i, none⟩ = some v
theorem RowAt.below {w w' : World} {B b o : Nat} {vs : List Value} (h : RowAt w b o vs) (hb : Below B w w') (hlt : b < B) : RowAt w' b o vs := fun i v hv => (hb.cell (p := ⟨b, o + i, none⟩) hlt).trans (h i v hv)
/-- The eight cells of a note, one by one. -/
structure NtAt (w : World) (b o : Nat) (x : Nt) (T : Option Addr) (c : Nat) : Prop where
  c0 : w.cell? ⟨b, o, none⟩ = some (.string x.name)
  c1 : w.cell? ⟨b, o + 1, none⟩ = some (.int .i64 x.kind)
  c2 : w.cell? ⟨b, o + 2, none⟩ = some (.int .i64 x.num)
  c3 : w.cell? ⟨b, o + 3, none⟩ = some (.int .i64 x.den)
  c4 : w.cell? ⟨b, o + 4, none⟩ = some (.slice T x.terms.length c)
  c5 : w.cell? ⟨b, o + 5, none⟩ = some (.int .i64 x.sp)
  c6 : w.cell? ⟨b, o + 6, none⟩ = some (.int .i64 x.sd)
  c7 : w.cell? ⟨b, o + 7, none⟩ = some (.int .i64 x.sq)
theorem RowAt.nt {w : World} {b o : Nat} {x : Nt} {T : Option Addr} {c : Nat} (h : RowAt w b o (ntC x T c)) : NtAt w b o x T c :=
  ⟨h 0 _ rfl, h 1 _ rfl, h 2 _ rfl, h 3 _ rfl, h 4 _ rfl, h 5 _ rfl, h 6 _ rfl, h 7 _ rfl⟩

def RdNt (w : World) (B : Nat) (A : Option Addr) (xs : List Nt) : Prop :=
  0 < xs.length → ∃ b off, A = some ⟨b, off, none⟩ ∧ b < B ∧ ∀ j x, xs[j]? = some x → ∃ T c, RowAt w b (off + j * 8) (ntC x T c) ∧ RdT w B T c x.terms
section
variable {w w' : World} {B B' : Nat} {A : Option Addr} {xs : List Nt}
theorem RdNt.below (h : RdNt w B A xs) (hb : Below B w w') : RdNt w' B A xs := fun hn => by
  obtain ⟨b, off, e, hlt, hc⟩ := h hn
  refine ⟨b, off, e, hlt, fun j x hx => ?_⟩
  obtain ⟨T, c, h1, h3⟩ := hc j x hx
  exact ⟨T, c, h1.below hb hlt, h3.below hb⟩
theorem RdNt.more (h : RdNt w B A xs) (hB : B ≤ B') : RdNt w B' A xs := fun hn => by
  obtain ⟨b, off, e, hlt, hc⟩ := h hn
  refine ⟨b, off, e, by omega, fun j x hx => ?_⟩
  obtain ⟨T, c, h1, h3⟩ := hc j x hx
  exact ⟨T, c, h1, h3.more hB⟩
theorem RdNt.next (h : RdNt w w.heap.size A xs) (hb : Below w.heap.size w w') : RdNt w' w'.heap.size A xs := (h.below hb).more hb.size
end
def WrNt (w : World) (base : Nat) (A : Option Addr) (xs : List Nt) : Prop :=
  0 < xs.length → ∃ b off, A = some ⟨b, off, none⟩ ∧ base ≤ b ∧ b < w.heap.size ∧ ∀ j x, xs[j]? = some x → ∃ T c, RowAt w b (off + j * 8) (ntC x T c) ∧ WrT w base T c x.terms
theorem WrNt.rd {w : World} {B : Nat} {A : Option Addr} {xs : List Nt} (h : WrNt w B A xs) : RdNt w w.heap.size A xs := fun hn => by
  obtain ⟨b, off, e, _, hlt, hc⟩ := h hn
  refine ⟨b, off, e, hlt, fun j x hx => ?_⟩
  obtain ⟨T, c, h1, h3⟩ := hc j x hx
  exact ⟨T, c, h1, h3.rd⟩

theorem szNote_any (x : Nt) (T : Option Addr) (c : Nat) (left : Int) (w : World) (hx : x.fits) (h0 : 0 ≤ left) (h1 : left ≤ 1048576) :
    Calls Tryd.prog 27 #[ntV x.name x.kind x.num x.den T x.terms.length c x.sp x.sd x.sq, .int .i64 left] w fun e w' => e = .returned (.int .i64 (if (x.sz : Int) ≤ left then left - x.sz else -1)) ∧ Below w.heap.size w w' := by
  obtain ⟨f1, f2⟩ := hx
  have ez : x.sz = x.name.size + x.terms.length := rfl
  generalize x.sz = z at *
  generalize x.name = s at *
  generalize x.terms = ts at *
  obtain ⟨z1, z2⟩ : z ≤ s.size + ts.length ∧ s.size + ts.length ≤ z := by omega
  clear ez
  have f1' := f1
  unfold maxLen at f1'
  unfold ntV
  by_cases hs : (s.size : Int) ≤ left
  · have hs0 : 0 ≤ left - s.size := by omega
    by_cases h : (z : Int) ≤ left
    · rw [if_pos h]
      have HZ : Hid (∀ W, Calls Tryd.prog 18 #[.slice T ts.length c, .int .i64 (left - s.size)] W fun e w' => e = .returned (.int .i64 (left - z)) ∧ W = w') := fun W => by
        have := szInt64S_any T c ts.length (left - s.size) W f2 hs0 (by omega)
        rw [if_pos (by omega), show left - (s.size : Int) - ts.length = left - z by omega] at this
        exact this
      have h2 : 0 ≤ left - z := by omega
      go_enter Tryd.func27, Tryd.ntmps27
      go_wp2_with fail
      refine (HZ.out _).mono ?_
      rintro e w' ⟨rfl, rfl⟩
      go_wp2
      go_ret
      exact ⟨ret_int (by omega), ext1 _ _⟩
    · rw [if_neg h]
      have HZ : Hid (∀ W, Calls Tryd.prog 18 #[.slice T ts.length c, .int .i64 (left - s.size)] W fun e w' => e = .returned (.int .i64 (-1)) ∧ W = w') := fun W => by
        have := szInt64S_any T c ts.length (left - s.size) W f2 hs0 (by omega)
        rw [if_neg (by omega)] at this
        exact this
      go_enter Tryd.func27, Tryd.ntmps27
      go_wp2_with fail
      refine (HZ.out _).mono ?_
      rintro e w' ⟨rfl, rfl⟩
      go_wp2
      go_ret
      exact ⟨rfl, ext1 _ _⟩
  · rw [if_neg (by omega)]
    go_enter Tryd.func27, Tryd.ntmps27
    go_wp2
    go_ret
    exact ⟨rfl, ext1 _ _⟩

theorem szNoteS_any (A : Option Addr) (c : Nat) (xs : List Nt) (left : Int) (w : World) (hr : RdNt w w.heap.size A xs) (hf : ∀ x ∈ xs, x.fits) (hn : xs.length ≤ maxLen) (h0 : 0 ≤ left) (h1 : left ≤ 1048576) :
    Calls Tryd.prog 11 #[.slice A xs.length c, .int .i64 left] w fun e w' => e = .returned (.int .i64 (if ((xs.length + ntTot xs : Nat) : Int) ≤ left then left - (xs.length + ntTot xs : Nat) else -1)) ∧ Below w.heap.size w w' := by
  unfold maxLen at hn
  have HF := Lib.hid hf
  clear hf
  by_cases hlen : (xs.length : Int) ≤ left
  · obtain ⟨R, hR⟩ : ∃ R : Int, (if ((xs.length + ntTot xs : Nat) : Int) ≤ left then left - (xs.length + ntTot xs : Nat) else -1) = R := ⟨_, rfl⟩
    rw [hR]
    have HR := Lib.hid hR
    clear hR
    have hd0 : 0 ≤ left - (xs.length : Int) := by omega
    go_enter Tryd.func11, Tryd.ntmps11
    go_wp2_with fail
    go_loopw [5, 1] (fun t u wr => ∃ (k : Nat) (m : Int), k ≤ xs.length ∧ t = .int .i64 k ∧ u = .int .i64 m ∧ 0 ≤ m ∧ m ≤ 1048576 ∧ Hid (m = left - (xs.length + ntTot (xs.take k) : Nat)) ∧ Below w.heap.size w wr) (fun t _ _ => xs.length - (intOf t).toNat)
    case atStart => exact ⟨0, _, by omega, rfl, rfl, by omega, by omega, by unfold Hid; simp [ntTot], Below.refl _ _⟩
    case round =>
      obtain ⟨k, m, hk, rfl, rfl, m0, m1, HM, hbe⟩ := hrel
      by_cases hlt : k < xs.length
      · obtain ⟨b, off, rfl, hb, hc⟩ := (hr.next hbe) (by omega)
        obtain ⟨x, hxk⟩ : ∃ x, xs[k]? = some x := ⟨_, List.getElem?_eq_getElem hlt⟩
        obtain ⟨T, ct, cr, _⟩ := hc k x hxk
        obtain ⟨c0, c1, c2, c3, c4, c5, c6, c7⟩ := cr.nt
        have hfx := HF.out x (List.mem_of_getElem? hxk)
        have HS := Lib.hid (ntTot_snoc hxk)
        have htk := ntTot_take_le xs (k + 1)
        clear hc hxk cr
        have i0 : (0 : Int) ≤ (k : Int) := by omega
        have i1 : (k : Int) < (xs.length : Int) := by omega
        have HC := Lib.hid (szNote_any x T ct m · hfx m0 m1)
        by_cases hle : (x.sz : Int) ≤ m
        · rw [if_pos hle] at HC
          have hm2 : 0 ≤ m - x.sz := by omega
          go_wp2_with fail
          refine (HC.out _).mono ?_
          rintro e w2 ⟨rfl, hb2⟩
          go_wp2
          go_roundw
          case rel => exact ⟨k + 1, _, by omega, by go_num, rfl, by omega, by omega, by have := HM.out; have := HS.out; unfold Hid; omega, ext_trans hbe hb2⟩
          case measure => simp [intOf]; omega
        · rw [if_neg hle] at HC
          have HE : Hid (R = -1) := by
            have h := HR.out
            have := HM.out; have := HS.out
            rw [if_neg (by omega)] at h
            exact h.symm
          clear htk
          go_wp2_with fail
          refine (HC.out _).mono ?_
          rintro e w2 ⟨rfl, hb2⟩
          go_wp2
          go_ret
          exact ⟨ret_int HE.out.symm, ext_trans hbe hb2⟩
      · have HE : Hid (R = m) := by
          have h := HR.out
          have h2 := HM.out
          rw [List.take_of_length_le (by omega)] at h2
          rw [if_pos (by omega)] at h
          show R = m
          omega
        go_wp2
        go_ret
        exact ⟨ret_int HE.out.symm, hbe⟩
  · rw [if_neg (by omega)]
    go_enter Tryd.func11, Tryd.ntmps11
    go_wp2
    go_ret
    exact ⟨rfl, Below.refl _ _⟩
theorem toSurd_any (p d q : Int) (w : World) :
    Calls Tryd.prog 52 #[surdV p d q] w fun e w' => e = .returned (surdV p d q) ∧ Below w.heap.size w w' := by
  unfold surdV
  go_enter Tryd.func52, Tryd.ntmps52
  go_wp2
  exact bodyPost_ret (v := .agg #[.int .i64 p, .int .i64 d, .int .i64 q]) (by simp [results, Tryd.results52, go_sem]) rfl ⟨rfl, ext_alloc (ext_alloc (ext_alloc (Below.refl _ _) _) _) _⟩
theorem eqSurd_any (p d q : Int) (w : World) :
    Calls Tryd.prog 59 #[surdV p d q, surdV p d q] w fun e w' => e = .returned (.bool true) ∧ Below w.heap.size w w' := by
  unfold surdV
  go_enter Tryd.func59, Tryd.ntmps59
  go_wp2
  go_ret
  exact ⟨rfl, ext_alloc (ext_alloc (Below.refl _ _) _) _⟩

set_option maxHeartbeats 4000000 in
theorem toNote_any (x : Nt) (T : Option Addr) (c : Nat) (w : World) (hx : Rd (Value.int .i64) w w.heap.size T x.terms) (hl : x.terms.length ≤ 1048576) :
    Calls Tryd.prog 30 #[ntV x.name x.kind x.num x.den T x.terms.length c x.sp x.sd x.sq] w fun e w' => ∃ B d, e = .returned (ntV x.name x.kind x.num x.den B x.terms.length d x.sp x.sd x.sq) ∧ WrT w' w.heap.size B d x.terms ∧ Below w.heap.size w w' := by
  generalize x.name = s at *
  generalize x.kind = k at *
  generalize x.num = n at *
  generalize x.den = m at *
  generalize x.sp = p at *
  generalize x.sd = f at *
  generalize x.sq = q at *
  generalize x.terms = xs at *
  have hx2 : ∀ W : World, Below w.heap.size w W → Rd (Value.int .i64) W W.heap.size T xs := fun W hb => (hx.below hb).more hb.size
  have HX := Lib.hid hx2
  clear hx2 hx
  unfold ntV
  go_enter Tryd.func30, Tryd.ntmps30
  go_wp2_with fail
  refine (toFraction_any n m _).mono ?_
  rintro e w1 ⟨rfl, hb1⟩
  obtain ⟨hc1, hf1⟩ := bcell hb1
  have hy1 := hb1.size
  (try simp at hy1)
  have hz0 : w.heap.size < w1.heap.size := by omega
  have hz1 : w.heap.size + 1 < w1.heap.size := by omega
  have hz2 : w.heap.size + 1 + 1 < w1.heap.size := by omega
  have E1 : Below w.heap.size w w1 := ext_trans (ext_alloc (ext_alloc (ext_alloc (Below.refl _ _) _) _) _) hb1
  go_wp2_with fail
  have E2 := ext_set (ext_set E1 (p := ⟨w.heap.size + 1 + 1, 2, none⟩) (by simp; omega) (.int .i64 n)) (p := ⟨w.heap.size + 1 + 1, 3, none⟩) (by simp; omega) (.int .i64 m)
  refine (toInt64S_cap T c xs _ (HX.out _ E2) hl).mono ?_
  rintro e w2 ⟨B, rfl, hw2, hb2⟩
  obtain ⟨hc2, hf2⟩ := bcell hb2
  have hy2 := hb2.size
  (try simp at hy2)
  have hz0' : w.heap.size < w2.heap.size := by omega
  have hz1' : w.heap.size + 1 < w2.heap.size := by omega
  have hz2' : w.heap.size + 1 + 1 < w2.heap.size := by omega
  have E3 := ext_trans E2 hb2
  go_wp2_with fail
  have E4 := ext_set E3 (p := ⟨w.heap.size + 1 + 1, 4, none⟩) (by simp; omega) (.slice B xs.length xs.length)
  refine (toSurd_any p f q _).mono ?_
  rintro e w3 ⟨rfl, hb3⟩
  obtain ⟨hc3, hf3⟩ := bcell hb3
  have hy3 := hb3.size
  (try simp at hy3)
  have hz0'' : w.heap.size < w3.heap.size := by omega
  have hz1'' : w.heap.size + 1 < w3.heap.size := by omega
  have hz2'' : w.heap.size + 1 + 1 < w3.heap.size := by omega
  have E5 := ext_trans E4 hb3
  go_wp2
  have hw2b : Wr (Value.int .i64) w2 w1.heap.size B xs := hw2.more (by simp)
  have hw3b : Wr (Value.int .i64) w3 w1.heap.size B xs := (hw2b.setLow (p := ⟨w.heap.size + 1 + 1, 4, none⟩) hz2 (.slice B xs.length xs.length)).below hb3
  have r : ∀ j v, [Value.string ByteArray.empty, .int .i64 0, .int .i64 0, .int .i64 0, .slice none 0 0, .int .i64 0, .int .i64 0, .int .i64 0][j]? = some v → w3.cell? ⟨w.heap.size + 1, j, none⟩ = some v := fun j v hv => by
    rw [hc3 _ _ (by simpa using hz1'), World.cell?_setCell_other _ _ _ _ (by simp), hc2 _ _ (by simpa using hz1), World.cell?_setCell_other _ _ _ _ (by simp), World.cell?_setCell_other _ _ _ _ (by simp), hc1 _ _ (by simp), cell_three_2, ← Array.getElem?_toList]
    exact hv
  have r0 := r 0 _ rfl
  have r1 := r 1 _ rfl
  have r2 := r 2 _ rfl
  have r3 := r 3 _ rfl
  have r4 := r 4 _ rfl
  have r5 := r 5 _ rfl
  have r6 := r 6 _ rfl
  have r7 := r 7 _ rfl
  clear r hc1 hc2 hc3 hf1 hf2 hf3
  refine bodyPost_ret (v := ntV s k n m B xs.length xs.length p f q) (by simp [results, Tryd.results30, go_sem, r0, r1, r2, r3, r4, r5, r6, r7]) rfl ⟨B, _, rfl, ⟨?_, Nat.le_refl _, by unfold maxLen; omega⟩, ?_⟩
  · refine Wr.more (B := w1.heap.size) ?_ (by omega)
    iterate 8 (refine Wr.setLow ?_ hz1 _)
    iterate 3 (refine Wr.setLow ?_ hz2 _)
    exact hw3b
  · iterate 11 (refine ext_set ?_ (by first | (simp; done) | (simp; omega)) _)
    exact E5

/-- What a copy of notes holds up to k. -/
def CpNt (w : World) (h : Nat) (xs : List Nt) (k : Nat) (W : World) : Prop :=
  (∀ j x, j < k → xs[j]? = some x → ∃ T c, RowAt W h (j * 8) (ntC x T c) ∧ WrT W (h + 1) T c x.terms) ∧
  (∀ j, j < xs.length * 8 → ∃ v, W.cell? ⟨h, j, none⟩ = some v) ∧ (∀ j, W.frozen? ⟨h, j, none⟩ = false) ∧ Below w.heap.size w W ∧ h < W.heap.size
theorem CpNt.step {w W W' : World} {h : Nat} {xs : List Nt} {k : Nat} {x : Nt} {T : Option Addr} {c : Nat} (hc : CpNt w h xs k W) (hw : w.heap.size ≤ h) (hk : k < xs.length) (hx : xs[k]? = some x) (hb : Below W.heap.size W W') (hT : WrT W' W.heap.size T c x.terms) :
    CpNt w h xs (k + 1) (putL h (k * 8) 0 (ntC x T c) W') := by
  obtain ⟨h1, h2, h3, h4, h5⟩ := hc
  have h5' : h < W'.heap.size := Nat.lt_of_lt_of_le h5 hb.size
  have cell : ∀ j, W'.cell? ⟨h, j, none⟩ = W.cell? ⟨h, j, none⟩ := fun j => hb.cell (p := ⟨h, j, none⟩) h5
  have hlen : (ntC x T c).length = 8 := rfl
  have far : ∀ i, (i < k * 8 ∨ k * 8 + 8 ≤ i) → (putL h (k * 8) 0 (ntC x T c) W').cell? ⟨h, i, none⟩ = W.cell? ⟨h, i, none⟩ := fun i hi =>
    (putL_other h (k * 8) 0 _ W' (fun j hj => by rw [hlen] at hj; intro e; injection e; omega)).trans (cell i)
  have near : ∀ j v, (ntC x T c)[j]? = some v → (putL h (k * 8) 0 (ntC x T c) W').cell? ⟨h, k * 8 + j, none⟩ = some v := fun j v hv => by
    have := putL_same h (k * 8) 0 (ntC x T c) W' (fun m hm => by
      rw [hlen] at hm
      obtain ⟨u, hu⟩ := h2 (k * 8 + 0 + m) (by omega)
      exact ⟨u, (cell _).trans hu⟩) j v hv
    rwa [Nat.add_zero] at this
  refine ⟨fun j y hj hy => ?_, fun j hj => ?_, fun j => ?_, putL_below h _ hw 0 _ (h4.trans (hb.mono h4.size)), by rw [putL_size]; exact h5'⟩
  · rcases Nat.lt_or_ge j k with g | g
    · obtain ⟨T', c', e1, e3⟩ := h1 j y g hy
      refine ⟨T', c', fun i v hv => ?_, putL_wr h _ (by omega) 0 _ (e3.1.below hb), e3.2⟩
      have hi : i < 8 := (List.getElem?_eq_some_iff.1 hv).1
      rw [far _ (.inl (by omega))]
      exact e1 i v hv
    · obtain rfl : j = k := by omega
      obtain rfl := Option.some.inj (hx.symm.trans hy)
      exact ⟨T, c, near, putL_wr h _ (by omega) 0 _ (hT.1.more (by omega)), hT.2⟩
  · by_cases hj8 : j < k * 8 ∨ k * 8 + 8 ≤ j
    · obtain ⟨v, hv⟩ := h2 j hj
      exact ⟨v, (far j hj8).trans hv⟩
    · obtain ⟨i, rfl⟩ : ∃ i, j = k * 8 + i := ⟨j - k * 8, by omega⟩
      exact ⟨_, near i _ (List.getElem?_eq_getElem (by rw [hlen]; omega))⟩
  · rw [putL_frozen]
    exact (hb.frozen (p := ⟨h, j, none⟩) h5).trans (h3 j)
theorem putL_nt (h o : Nat) (x : Nt) (T : Option Addr) (c : Nat) (W : World) :
    ((((((((W.setCell ⟨h, o, none⟩ (.string x.name)).setCell ⟨h, o + 1, none⟩ (.int .i64 x.kind)).setCell ⟨h, o + 2, none⟩ (.int .i64 x.num)).setCell ⟨h, o + 3, none⟩ (.int .i64 x.den)).setCell ⟨h, o + 4, none⟩ (.slice T x.terms.length c)).setCell ⟨h, o + 5, none⟩ (.int .i64 x.sp)).setCell ⟨h, o + 6, none⟩ (.int .i64 x.sd)).setCell ⟨h, o + 7, none⟩ (.int .i64 x.sq)) = putL h o 0 (ntC x T c) W := rfl

theorem infoNt : (Tryd.prog.info? 60).map (fun i => (i.zero, i.size, i.bytes)) = some (some (ntV ByteArray.empty 0 0 0 none 0 0 0 0 0), 8, 88) := by kernel_rfl

set_option maxHeartbeats 1000000 in
theorem toNoteS_any (A : Option Addr) (c : Nat) (xs : List Nt) (w : World) (hr : RdNt w w.heap.size A xs) (hf : ∀ x ∈ xs, x.terms.length ≤ 1048576) (hl : xs.length ≤ 1048576) :
    Calls Tryd.prog 13 #[.slice A xs.length c] w fun e w' => ∃ B d, e = .returned (.slice B xs.length d) ∧ WrNt w' w.heap.size B xs ∧ Below w.heap.size w w' := by
  obtain ⟨i0, hi, hz0, hz1, hz2⟩ := info_parts infoNt
  have HFT := Lib.hid hf
  clear hf
  have hmk : ∀ W : World, (Instr.makeSlice 34 (.int .i64 (xs.length : Int)) (.int .i64 (xs.length : Int))).run Tryd.prog W = .ok (.slice (some ⟨W.heap.size, 0, none⟩) xs.length xs.length) (W.alloc (.cells (madeCells #[.string ByteArray.empty, .int .i64 0, .int .i64 0, .int .i64 0, .slice none 0 0, .int .i64 0, .int .i64 0, .int .i64 0] (xs.length * 8)) 60)) := fun W => by
    have h := run_make (P := Tryd.prog) W 34 60 i0 _ Tryd.underlying34 hi hz0 .i64 .i64 (xs.length : Int) (xs.length : Int) (by omega) (by omega) (by rw [hz2]; omega) (by omega)
    rw [hz1] at h
    simpa [Value.cells] using h
  go_enter Tryd.func13, Tryd.ntmps13
  go_wp2_with fail
  have hms : (madeCells #[.string ByteArray.empty, .int .i64 0, .int .i64 0, .int .i64 0, .slice none 0 0, .int .i64 0, .int .i64 0, .int .i64 0] (xs.length * 8)).size = xs.length * 8 := size_madeCells _ _
  obtain ⟨W, hW, hC⟩ : ∃ W, W = w.alloc (.cells (madeCells #[.string ByteArray.empty, .int .i64 0, .int .i64 0, .int .i64 0, .slice none 0 0, .int .i64 0, .int .i64 0, .int .i64 0] (xs.length * 8)) 60) ∧ CpNt w w.heap.size xs 0 W :=
    ⟨_, rfl, fun _ _ h => absurd h (by omega), fun j hj => madeCell (by rw [hms]; exact hj), fun j => World.frozen?_alloc_at _ _ _ _ rfl, ext1 _ _, by simp⟩
  rw [← hW]
  clear hW hms
  have HC := Lib.hid hC
  clear hC hmk
  go_loopw [4] (fun t wr => ∃ i : Nat, i ≤ xs.length ∧ t = .int .i64 i ∧ Hid (CpNt w w.heap.size xs i wr)) (fun t _ => xs.length - (intOf t).toNat)
  case atStart => exact ⟨0, by omega, rfl, HC.out⟩
  case round =>
    obtain ⟨i, hi', rfl, HR⟩ := hrel
    clear HC
    have hbe := HR.out.2.2.2.1
    have hzr := HR.out.2.2.2.2
    by_cases hlt : i < xs.length
    · obtain ⟨b, off, rfl, hb, hc⟩ := (hr.next hbe) (by omega)
      obtain ⟨x, hxi⟩ : ∃ x, xs[i]? = some x := ⟨_, List.getElem?_eq_getElem hlt⟩
      obtain ⟨T, ct, cr, cT⟩ := hc i x hxi
      obtain ⟨c0, c1, c2, c3, c4, c5, c6, c7⟩ := cr.nt
      have HX := Lib.hid hxi
      have HTN := Lib.hid (toNote_any x T ct wr cT.1 (HFT.out x (List.mem_of_getElem? hxi)))
      have hcl := HR.out.2.1
      have hfr := HR.out.2.2.1
      obtain ⟨v0, hv0⟩ := hcl (i * 8) (by omega)
      obtain ⟨v1, hv1⟩ := hcl (i * 8 + 1) (by omega)
      obtain ⟨v2, hv2⟩ := hcl (i * 8 + 2) (by omega)
      obtain ⟨v3, hv3⟩ := hcl (i * 8 + 3) (by omega)
      obtain ⟨v4, hv4⟩ := hcl (i * 8 + 4) (by omega)
      obtain ⟨v5, hv5⟩ := hcl (i * 8 + 5) (by omega)
      obtain ⟨v6, hv6⟩ := hcl (i * 8 + 6) (by omega)
      obtain ⟨v7, hv7⟩ := hcl (i * 8 + 7) (by omega)
      have HV := Lib.hid (And.intro hv0 (And.intro hv1 (And.intro hv2 (And.intro hv3 (And.intro hv4 (And.intro hv5 (And.intro hv6 hv7)))))))
      have HFR := Lib.hid hfr
      clear hc hxi cr cT hcl hfr hv0 hv1 hv2 hv3 hv4 hv5 hv6 hv7
      have i0 : (0 : Int) ≤ (i : Int) := by omega
      have i1 : (i : Int) < (xs.length : Int) := by omega
      go_wp2_with fail
      refine HTN.out.mono ?_
      rintro e w2 ⟨B, d, rfl, hw2, hb2⟩
      have cl : ∀ j v, wr.cell? ⟨w.heap.size, j, none⟩ = some v → w2.cell? ⟨w.heap.size, j, none⟩ = some v := fun j v h => (hb2.cell (p := ⟨w.heap.size, j, none⟩) hzr).trans h
      have fl : ∀ j, w2.frozen? ⟨w.heap.size, j, none⟩ = false := fun j => (hb2.frozen (p := ⟨w.heap.size, j, none⟩) hzr).trans (HFR.out j)
      obtain ⟨u0, u1, u2, u3, u4, u5, u6, u7⟩ := HV.out
      have hv0 := cl _ _ u0
      have hv1 := cl _ _ u1
      have hv2 := cl _ _ u2
      have hv3 := cl _ _ u3
      have hv4 := cl _ _ u4
      have hv5 := cl _ _ u5
      have hv6 := cl _ _ u6
      have hv7 := cl _ _ u7
      clear u0 u1 u2 u3 u4 u5 u6 u7 cl c0 c1 c2 c3 c4 c5 c6 c7
      go_wp2
      go_roundw
      case rel => exact ⟨i + 1, by omega, by go_num, by rw [putL_nt]; exact CpNt.step HR.out (Nat.le_refl _) hlt HX.out hb2 hw2⟩
      case measure => simp [intOf]; omega
    · go_wp2
      go_ret
      obtain ⟨r1, r2, r3, r4, r5⟩ := HR.out
      refine ⟨_, _, rfl, fun _ => ⟨w.heap.size, 0, rfl, Nat.le_refl _, r5, fun j x hx => ?_⟩, r4⟩
      obtain ⟨T, ct, e1, e3⟩ := r1 j x (by have := (List.getElem?_eq_some_iff.1 hx).1; omega) hx
      rw [Nat.zero_add]
      exact ⟨T, ct, e1, e3.more (by omega)⟩
set_option maxHeartbeats 1000000 in
theorem eqNote_any (x : Nt) (A B : Option Addr) (c d : Nat) (w : World) (hx : Rd (Value.int .i64) w w.heap.size A x.terms) (hy : Rd (Value.int .i64) w w.heap.size B x.terms) (hm : x.terms.length ≤ maxLen) :
    Calls Tryd.prog 35 #[ntV x.name x.kind x.num x.den A x.terms.length c x.sp x.sd x.sq, ntV x.name x.kind x.num x.den B x.terms.length d x.sp x.sd x.sq] w fun e w' => e = .returned (.bool true) ∧ Below w.heap.size w w' := by
  have HX : Hid (∀ W, Below w.heap.size w W → Rd (Value.int .i64) W W.heap.size A x.terms) := fun W hb => (hx.below hb).more hb.size
  have HY : Hid (∀ W, Below w.heap.size w W → Rd (Value.int .i64) W W.heap.size B x.terms) := fun W hb => (hy.below hb).more hb.size
  clear hx hy
  generalize x.name = s at *
  generalize x.kind = k at *
  generalize x.num = n at *
  generalize x.den = m at *
  generalize x.sp = p at *
  generalize x.sd = f at *
  generalize x.sq = q at *
  generalize x.terms = xs at *
  unfold ntV
  go_enter Tryd.func35, Tryd.ntmps35
  go_wp2_with fail
  refine (eqFraction_any n m _).mono ?_
  rintro e w1 ⟨rfl, hb1⟩
  have E1 : Below w.heap.size w w1 := ext_trans (ext_alloc (ext1 _ _) _) hb1
  obtain ⟨hc1, hf1⟩ := bcell hb1
  have hy1 := hb1.size
  (try simp at hy1)
  have hz0 : w.heap.size < w1.heap.size := by omega
  have hz1 : w.heap.size + 1 < w1.heap.size := by omega
  go_wp2_with fail
  refine (eqInt64S_any A B c d xs xs _ (HX.out _ E1) (HY.out _ E1) hm hm).mono ?_
  rintro e w2 ⟨rfl, hb2⟩
  obtain ⟨hc2, hf2⟩ := bcell hb2
  have E2 := ext_trans E1 hb2
  have hy2 := hb2.size
  go_wp2_with fail
  refine (eqSurd_any p f q _).mono ?_
  rintro e w3 ⟨rfl, hb3⟩
  go_wp2
  go_ret
  exact ⟨rfl, ext_trans E2 hb3⟩

set_option maxHeartbeats 1000000 in
theorem eqNoteS_any (A B : Option Addr) (c d : Nat) (xs : List Nt) (w : World) (hx : RdNt w w.heap.size A xs) (hy : RdNt w w.heap.size B xs) (hf : ∀ x ∈ xs, x.terms.length ≤ maxLen) (hl : xs.length ≤ 1048576) :
    Calls Tryd.prog 15 #[.slice A xs.length c, .slice B xs.length d] w fun e w' => e = .returned (.bool true) ∧ Below w.heap.size w w' := by
  have HF := Lib.hid hf
  clear hf
  have hl0 : ((xs.length : Int) != (xs.length : Int)) = false := by simp
  go_enter Tryd.func15, Tryd.ntmps15
  go_wp2_with fail
  go_loopw [5] (fun t wr => ∃ k : Nat, k ≤ xs.length ∧ t = .int .i64 k ∧ Below w.heap.size w wr) (fun t _ => xs.length - (intOf t).toNat)
  case atStart => exact ⟨0, by omega, rfl, Below.refl _ _⟩
  case round =>
    obtain ⟨k, hk, rfl, hbe⟩ := hrel
    by_cases hlt : k < xs.length
    · obtain ⟨b, off, rfl, hb, hc⟩ := (hx.next hbe) (by omega)
      obtain ⟨b', off', rfl, hb', hc'⟩ := (hy.next hbe) (by omega)
      obtain ⟨x, hxk⟩ : ∃ x, xs[k]? = some x := ⟨_, List.getElem?_eq_getElem hlt⟩
      obtain ⟨T, ct, cr, cT⟩ := hc k x hxk
      obtain ⟨T', ct', dr, dT⟩ := hc' k x hxk
      have HC := Lib.hid (fun W hb => eqNote_any x T T' ct ct' W (cT.1.next (w' := W) hb) (dT.1.next hb) (HF.out x (List.mem_of_getElem? hxk)))
      obtain ⟨c0, c1, c2, c3, c4, c5, c6, c7⟩ := cr.nt
      obtain ⟨d0, d1, d2, d3, d4, d5, d6, d7⟩ := dr.nt
      clear hc hc' hxk cr dr cT dT
      have i0 : (0 : Int) ≤ (k : Int) := by omega
      have i1 : (k : Int) < (xs.length : Int) := by omega
      have k0 : ∀ x os, (grow (redrawn wr x) os).cell? _ = _ := cell_regrown c0
      have k1 : ∀ x os, (grow (redrawn wr x) os).cell? _ = _ := cell_regrown c1
      have k2 : ∀ x os, (grow (redrawn wr x) os).cell? _ = _ := cell_regrown c2
      have k3 : ∀ x os, (grow (redrawn wr x) os).cell? _ = _ := cell_regrown c3
      have k4 : ∀ x os, (grow (redrawn wr x) os).cell? _ = _ := cell_regrown c4
      have k5 : ∀ x os, (grow (redrawn wr x) os).cell? _ = _ := cell_regrown c5
      have k6 : ∀ x os, (grow (redrawn wr x) os).cell? _ = _ := cell_regrown c6
      have k7 : ∀ x os, (grow (redrawn wr x) os).cell? _ = _ := cell_regrown c7
      have l0 : ∀ x os, (grow (redrawn wr x) os).cell? _ = _ := cell_regrown d0
      have l1 : ∀ x os, (grow (redrawn wr x) os).cell? _ = _ := cell_regrown d1
      have l2 : ∀ x os, (grow (redrawn wr x) os).cell? _ = _ := cell_regrown d2
      have l3 : ∀ x os, (grow (redrawn wr x) os).cell? _ = _ := cell_regrown d3
      have l4 : ∀ x os, (grow (redrawn wr x) os).cell? _ = _ := cell_regrown d4
      have l5 : ∀ x os, (grow (redrawn wr x) os).cell? _ = _ := cell_regrown d5
      have l6 : ∀ x os, (grow (redrawn wr x) os).cell? _ = _ := cell_regrown d6
      have l7 : ∀ x os, (grow (redrawn wr x) os).cell? _ = _ := cell_regrown d7
      clear c0 c1 c2 c3 c4 c5 c6 c7 d0 d1 d2 d3 d4 d5 d6 d7
      go_wp2_with fail
      refine wp_region_quiet_below (by kernel_rfl) (by kernel_rfl) ?_
      repeat (first | go_big_quiet_step ((with_reducible exact Calls.regrown_of (HC.out _ (below_regrown _ _ _)))) | quiet_step ((with_reducible exact Calls.regrown_of (HC.out _ (below_regrown _ _ _)))))
      refine wpQuiet_nil ?_
      intro _ hw'
      obtain ⟨⟨dq, oq⟩, hw''⟩ := hw'
      subst hw''
      clear k0 k1 k2 k3 k4 k5 k6 k7 l0 l1 l2 l3 l4 l5 l6 l7
      go_wp2
      go_roundw
      case rel => exact ⟨k + 1, by omega, by go_num, ext_trans hbe (below_regrown _ _ _)⟩
      case measure => simp [intOf]; omega
    · go_wp2
      go_ret
      exact ⟨rfl, hbe⟩
end Go.Proofs.YtmgfceiomfiknaaDoor
