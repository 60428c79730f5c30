/- Slices that read as lists; the statements' own comparing, marking and looking at slices of integers. No condition. -/
import Derived.Test.YtmgfceiomfiknaaDoorBase
import Derived.Maps.AppendAt
import Derived.Deep.AppendLies
import Derived.OwnWalk
namespace Go.Proofs.YtmgfceiomfiknaaDoor
open Go.RowKit Go.Sort

/-- A slice's address A leads to cells that read as the list xs, in a block below B. -/
def Rd {α : Type} (enc : α → Value) (w : World) (B : Nat) (A : Option Addr) (xs : List α) : Prop :=
  0 < xs.length → ∃ b off, A = some ⟨b, off, none⟩ ∧ b < B ∧ ∀ j x, xs[j]? = some x → w.cell? ⟨b, off + j, none⟩ = some (enc x)
/-- .. to cells in a block from base on, of which none is frozen. -/
def Wr {α : Type} (enc : α → Value) (w : World) (base : Nat) (A : Option Addr) (xs : List α) : Prop :=
  0 < xs.length → ∃ b off, A = some ⟨b, off, none⟩ ∧ base ≤ b ∧ b < w.heap.size ∧ (∀ j x, xs[j]? = some x → w.cell? ⟨b, off + j, none⟩ = some (enc x)) ∧ ∀ j, w.frozen? ⟨b, j, none⟩ = false

section
variable {α : Type} {enc : α → Value} {w w' : World} {B B' : Nat} {A : Option Addr} {xs : List α}
theorem Rd.nil_ : Rd enc w B A ([] : List α) := fun h => absurd h (by simp)
theorem Rd.below (h : Rd enc w B A xs) (hb : Below B w w') : Rd enc w' B A xs := fun hn => by
  obtain ⟨b, off, e, hlt, hc⟩ := h hn
  exact ⟨b, off, e, hlt, fun j x hx => (hb.cell (p := ⟨b, off + j, none⟩) hlt).trans (hc j x hx)⟩
theorem Rd.more (h : Rd enc w B A xs) (hB : B ≤ B') : Rd enc w B' A xs := fun hn => by
  obtain ⟨b, off, e, hlt, hc⟩ := h hn
  exact ⟨b, off, e, by omega, hc⟩
theorem Wr.rd (h : Wr enc w B A xs) : Rd enc w w.heap.size A xs := fun hn => by
  obtain ⟨b, off, e, _, hlt, hc, _⟩ := h hn
  exact ⟨b, off, e, hlt, hc⟩
theorem Wr.more (h : Wr enc w B A xs) (hB : B' ≤ B) : Wr enc w B' A xs := fun hn => by
  obtain ⟨b, off, e, h1, h2, hc⟩ := h hn
  exact ⟨b, off, e, by omega, h2, hc⟩
theorem Wr.below (h : Wr enc w B A xs) (hb : Below w.heap.size w w') : Wr enc w' B A xs := fun hn => by
  obtain ⟨b, off, e, h1, h2, hc, hf⟩ := h hn
  exact ⟨b, off, e, h1, Nat.lt_of_lt_of_le h2 hb.size, fun j x hx => (hb.cell (p := ⟨b, off + j, none⟩) h2).trans (hc j x hx), fun j => (hb.frozen (p := ⟨b, j, none⟩) h2).trans (hf j)⟩
theorem Wr.drew_ (h : Wr enc w B A xs) : Wr enc w.drew B A xs := h
theorem Wr.setLow (h : Wr enc w B A xs) {p : Addr} (hp : p.block < B) (u : Value) : Wr enc (w.setCell p u) B A xs := fun hn => by
  obtain ⟨b, off, e, h1, h2, hc, hf⟩ := h hn
  refine ⟨b, off, e, h1, by simpa using h2, fun j x hx => ?_, fun j => (World.frozen?_setCell _ _ _ _).trans (hf j)⟩
  refine (World.cell?_setCell_other w p ⟨b, off + j, none⟩ u ?_).trans (hc j x hx)
  intro e
  subst e
  exact absurd hp (Nat.not_lt.2 h1)
theorem Wr.of_own {base : Nat} {e : TypeId} {v : Value} {n : Nat} (h : w.ownsRow base e 1 v n (xs.map enc)) : n = xs.length ∧ ∃ A c, v = .slice A n c ∧ Wr enc w base A xs := by
  have hn : n = xs.length := by have := h.1; simp at this; omega
  refine ⟨hn, ?_⟩
  rcases h.2 with ⟨rfl, h0⟩ | ⟨g, cap, cur, rfl, hg, hh, hc, hm, hs, ht⟩
  · exact ⟨none, 0, by rw [h0], fun hp => by omega⟩
  · refine ⟨_, _, rfl, fun _ => ⟨g, 0, rfl, hg, ?_, fun j x hx => ?_, fun j => ?_⟩⟩
    · rcases Nat.lt_or_ge g w.heap.size with h1 | h1
      · exact h1
      · rw [Array.getElem?_eq_none h1] at hh; cases hh
    · have hx' : (xs.map enc)[j]? = some (enc x) := by rw [List.getElem?_map, hx]; rfl
      have := h.cells (g := g) rfl j _ hx'
      have ea : (⟨g, 0, none⟩ : Addr).add j = ⟨g, 0 + j, none⟩ := by
        unfold Addr.add
        by_cases hj : j = 0 <;> simp [hj]
      rw [ea] at this
      exact this
    · simp [World.frozen?, hh]
end

theorem own_below {w w' : World} {base : Nat} {e : TypeId} {size n : Nat} {v : Value} {xs : List Value} (h : w.ownsRow base e size v n xs) (hb : Below w.heap.size w w') : w'.ownsRow base e size v n xs := by
  obtain ⟨h1, h2⟩ := h
  refine ⟨h1, ?_⟩
  rcases h2 with h2 | ⟨g, cap, cur, hv, hg, hh, r⟩
  · exact .inl h2
  · have hlt : g < w.heap.size := by
      rcases Nat.lt_or_ge g w.heap.size with h | h
      · exact h
      · rw [Array.getElem?_eq_none h] at hh; cases hh
    exact .inr ⟨g, cap, cur, hv, hg, (hb.block g hlt).trans hh, r⟩
/-- Behind an append: what lay below the row's base is as it was. -/
theorem below_grown {w0 w w' : World} {base : Nat} {e : TypeId} {size n : Nat} {v : Value} {xs : List Value} (h : Below w0.heap.size w0 w) (hown : w.ownsRow base e size v n xs) (hbase : w0.heap.size ≤ base) (hg : w.grownBy w' v.ownBlock) : Below w0.heap.size w0 w' :=
  h.grown hg h.size (fun k hk => Nat.le_trans hbase (hown.lt k hk).1)
theorem own_cell {w w' : World} {base : Nat} {e : TypeId} {size n : Nat} {v : Value} {xs : List Value} (hown : w.ownsRow base e size v n xs) (hg : w.grownBy w' v.ownBlock) {p : Addr} (hp : p.block < base) (hs : p.block < w.heap.size) : w'.cell? p = w.cell? p :=
  World.cell?_of_block (hg.block p.block hs (fun e => by have := (hown.lt p.block e.symm).1; omega))
theorem own_slice {w : World} {base : Nat} {e : TypeId} {size n : Nat} {v : Value} {xs : List Value} (h : w.ownsRow base e size v n xs) : ∃ A c, v = .slice A n c := by
  rcases h.2 with ⟨rfl, rfl⟩ | ⟨g, cap, cur, rfl, _⟩
  · exact ⟨_, _, rfl⟩
  · exact ⟨_, _, rfl⟩
theorem own_nil {w : World} {base : Nat} {e : TypeId} {size : Nat} : w.ownsRow base e size (.slice none 0 0) 0 [] := World.ownsRow_nil _ _ _ _

theorem info64 : (Tryd.prog.info? 2).map (fun i => (i.zero, i.size, i.bytes)) = some (some (.int .i64 0), 1, 8) := by kernel_rfl

/-- What a call returns that makes a slice of integers, and a code. -/
def RetInts (w : World) (xs : List Int) (code : Int) (e : Ending) (w' : World) : Prop :=
  ∃ A c, e = .returned (.tuple #[.slice A xs.length c, .int .i64 code]) ∧ Wr (Value.int .i64) w' w.heap.size A xs ∧ Below w.heap.size w w'

/-- The marks that a statement lays: k, k + 1, .. -/
def marks (k : Int) : Nat → List Int
  | 0 => []
  | n + 1 => k :: marks (k + 1) n
theorem marks_length (k : Int) (n : Nat) : (marks k n).length = n := by
  induction n generalizing k with
  | zero => rfl
  | succ n ih => simp [marks, ih]
theorem marks_get (k : Int) (n j : Nat) (h : j < n) : (marks k n)[j]? = some (k + j) := by
  induction n generalizing k j with
  | zero => omega
  | succ n ih =>
    cases j with
    | zero => simp [marks]
    | succ j =>
      simp only [marks, List.getElem?_cons_succ]
      rw [ih (k + 1) j (by omega)]
      congr 1
      omega

theorem take_eq_succ {α : Type} {xs ys : List α} {k : Nat} {x : α} (h : xs.take k = ys.take k) (hx : xs[k]? = some x) (hy : ys[k]? = some x) : xs.take (k + 1) = ys.take (k + 1) := by
  rw [List.take_add_one, List.take_add_one, h, hx, hy]

set_option maxHeartbeats 400000 in
theorem eqInt64S_any (A B : Option Addr) (c d : Nat) (xs ys : List Int) (w : World) (hx : Rd (Value.int .i64) w w.heap.size A xs) (hy : Rd (Value.int .i64) w w.heap.size B ys) (hm : xs.length ≤ maxLen) (hm' : ys.length ≤ maxLen) :
    Calls Tryd.prog 26 #[.slice A xs.length c, .slice B ys.length d] w fun e w' => e = .returned (.bool (decide (xs = ys))) ∧ Below w.heap.size w w' := by
  unfold maxLen at hm hm'
  by_cases hl : xs.length = ys.length
  · have hl0 : ((xs.length : Int) != (ys.length : Int)) = false := by simp [hl]
    have HL := Lib.hid hl
    have hl1 : xs.length ≤ ys.length := by omega
    have hl2 : ys.length ≤ xs.length := by omega
    clear hl
    go_enter Tryd.func26, Tryd.ntmps26
    go_wp2
    go_loopw [5] (fun t wr => ∃ k : Nat, k ≤ xs.length ∧ t = .int .i64 k ∧ xs.take k = ys.take k ∧ ∃ n, wr = w.drewN n) (fun t _ => xs.length - (intOf t).toNat)
    case atStart => exact ⟨0, by omega, rfl, by simp, 0, rfl⟩
    case round =>
      obtain ⟨k, hk, rfl, ht, nn, rfl⟩ := hrel
      have HT := Lib.hid ht
      clear ht
      by_cases hlt : k < xs.length
      · obtain ⟨b, off, rfl, hb, hc⟩ := hx (by omega)
        obtain ⟨b', off', rfl, hb', hc'⟩ := hy (by omega)
        obtain ⟨x, hxk⟩ : ∃ x, xs[k]? = some x := ⟨_, List.getElem?_eq_getElem hlt⟩
        obtain ⟨y, hyk⟩ : ∃ y, ys[k]? = some y := ⟨_, List.getElem?_eq_getElem (by omega)⟩
        have c1 := hc k x hxk
        have c2 := hc' k y hyk
        have HX := Lib.hid hxk
        have HY := Lib.hid hyk
        clear hc hc' hxk hyk
        have i0 : (0 : Int) ≤ (k : Int) := by omega
        have i1 : (k : Int) < (xs.length : Int) := by omega
        have i2 : (k : Int) < (ys.length : Int) := by omega
        by_cases hxy : x = y
        · subst hxy
          go_wp2_with fail
          go_quiet (fail)
          go_wp2
          go_roundw
          case rel => exact ⟨k + 1, by omega, by go_num, take_eq_succ HT.out HX.out HY.out, _, rfl⟩
          case measure => simp [intOf]; omega
        · have hne : (x != y) = true := by simpa using hxy
          have hne' : (x == y) = false := by simpa using hxy
          go_wp2_with fail
          go_quiet (fail)
          go_wp2
          go_ret
          refine ⟨ret_bool ?_, ⟨rfl, rfl, rfl, Nat.le_refl _, fun _ _ => rfl⟩⟩
          symm
          rw [decide_eq_false_iff_not]
          rintro rfl
          exact hxy (Option.some.inj (HX.out.symm.trans HY.out))
      · go_wp2
        go_ret
        refine ⟨ret_bool ?_, ⟨rfl, rfl, rfl, Nat.le_refl _, fun _ _ => rfl⟩⟩
        symm
        rw [decide_eq_true_iff]
        have h := HT.out
        rw [List.take_of_length_le (by omega), List.take_of_length_le (by omega)] at h
        exact h
  · have hl0 : ((xs.length : Int) != (ys.length : Int)) = true := by simp; omega
    have hl1 : ((xs.length : Int) == (ys.length : Int)) = false := by simp; omega
    go_enter Tryd.func26, Tryd.ntmps26
    go_wp2
    go_ret
    exact ⟨ret_bool (by symm; rw [decide_eq_false_iff_not]; rintro rfl; exact hl rfl), Below.refl _ _⟩
/-- All blocks but that of a slice of n elements are as they were. -/
def Others (A : Option Addr) (n : Nat) (w w' : World) : Prop := ∀ B', (0 < n → ∃ b off, A = some ⟨b, off, none⟩ ∧ B' ≠ b) → w'.heap[B']? = w.heap[B']?
theorem Wr.apart {α : Type} {enc : α → Value} {w : World} {B : Nat} {A : Option Addr} {xs : List α} (h : Wr enc w B A xs) {B' : Nat} (hB : w.heap.size ≤ B') : 0 < xs.length → ∃ b off, A = some ⟨b, off, none⟩ ∧ B' ≠ b := fun hn => by
  obtain ⟨b, off, e, _, h2, _⟩ := h hn
  exact ⟨b, off, e, by omega⟩
theorem Others.cell {A : Option Addr} {n : Nat} {w w' : World} (h : Others A n w w') {B' : Nat} (hB : 0 < n → ∃ b off, A = some ⟨b, off, none⟩ ∧ B' ≠ b) (o : Nat) : w'.cell? ⟨B', o, none⟩ = w.cell? ⟨B', o, none⟩ :=
  World.cell?_of_block (a := ⟨B', o, none⟩) (h B' hB)

theorem szInt64S_any (A : Option Addr) (c n : Nat) (left : Int) (w : World) (hn : n ≤ maxLen) (h0 : 0 ≤ left) (h1 : left ≤ 1048576) :
    Calls Tryd.prog 18 #[.slice A n c, .int .i64 left] w fun e w' => e = .returned (.int .i64 (if (n : Int) ≤ left then left - n else -1)) ∧ w = w' := by
  unfold maxLen at hn
  by_cases h : (n : Int) ≤ left
  all_goals
    go_enter Tryd.func18, Tryd.ntmps18
    go_wp2
    go_ret
    exact ⟨by first | rfl | rw [if_pos h] | rw [if_neg h], rfl⟩

theorem madeCell {w : World} {C : Array Value} {E : TypeId} {j : Nat} (h : j < C.size) : ∃ v, (w.alloc (.cells C E)).cell? ⟨w.heap.size, j, none⟩ = some v := by
  refine ⟨C[j], ?_⟩
  rw [World.cell?_alloc_at _ _ _ _ rfl]
  exact Array.getElem?_eq_getElem h

set_option maxHeartbeats 400000 in
theorem toInt64S_cap (A : Option Addr) (c : Nat) (xs : List Int) (w : World) (hx : Rd (Value.int .i64) w w.heap.size A xs) (hl : xs.length ≤ 1048576) :
    Calls Tryd.prog 22 #[.slice A xs.length c] w fun e w' => ∃ B, e = .returned (.slice B xs.length xs.length) ∧ Wr (Value.int .i64) w' w.heap.size B xs ∧ Below w.heap.size w w' := by
  obtain ⟨i0, hi, hz0, hz1, hz2⟩ := info_parts info64
  have hmk : ∀ W : World, (Instr.makeSlice 22 (.int .i64 (xs.length : Int)) (.int .i64 (xs.length : Int))).run Tryd.prog W = .ok (.slice (some ⟨W.heap.size, 0, none⟩) xs.length xs.length) (W.alloc (.cells (madeCells #[.int .i64 0] xs.length) 2)) := fun W => by
    have h := run_make (P := Tryd.prog) W 22 2 i0 _ Tryd.underlying22 hi hz0 .i64 .i64 (xs.length : Int) (xs.length : Int) (by omega) (by omega) (by rw [hz2]; omega) (by omega)
    rw [hz1] at h
    simpa [Value.cells] using h
  go_enter Tryd.func22, Tryd.ntmps22
  go_wp2_with fail
  have hms : (madeCells #[.int .i64 0] xs.length).size = xs.length := size_madeCells _ _
  obtain ⟨W, hW, h1, h2, h3, h4⟩ : ∃ W, W = w.alloc (.cells (madeCells #[.int .i64 0] xs.length) 2) ∧ Below w.heap.size w W ∧ w.heap.size < W.heap.size ∧ (∀ j, j < xs.length → ∃ v, W.cell? ⟨w.heap.size, j, none⟩ = some v) ∧ ∀ j, W.frozen? ⟨w.heap.size, j, none⟩ = false :=
    ⟨_, rfl, ext_alloc (Below.refl _ _) _, by simp, fun j hj => madeCell (by rw [hms]; exact hj), fun j => World.frozen?_alloc_at _ _ _ _ rfl⟩
  rw [← hW]
  clear hW hms
  have H3 := Lib.hid h3
  have H4 := Lib.hid h4
  clear h3 h4 hmk
  go_loopw [4] (fun t wr => ∃ i : Nat, i ≤ xs.length ∧ t = .int .i64 i ∧ Hid ((∀ j x, j < i → xs[j]? = some x → wr.cell? ⟨w.heap.size, j, none⟩ = some (.int .i64 x)) ∧ (∀ j, j < xs.length → ∃ v, wr.cell? ⟨w.heap.size, j, none⟩ = some v) ∧ (∀ j, wr.frozen? ⟨w.heap.size, j, none⟩ = false) ∧ Below w.heap.size w wr ∧ w.heap.size < wr.heap.size)) (fun t _ => xs.length - (intOf t).toNat)
  case atStart => exact ⟨0, by omega, rfl, fun _ _ h => absurd h (by omega), H3.out, H4.out, h1, h2⟩
  case round =>
    obtain ⟨i, hi', rfl, HR⟩ := hrel
    by_cases hlt : i < xs.length
    · obtain ⟨b, off, rfl, hb, hc⟩ := hx (by omega)
      obtain ⟨x, hxi⟩ : ∃ x, xs[i]? = some x := ⟨_, List.getElem?_eq_getElem hlt⟩
      have hci := (HR.out.2.2.2.1.cell (p := ⟨b, off + i, none⟩) hb).trans (hc i x hxi)
      have HX := Lib.hid hxi
      clear hc hxi
      obtain ⟨v, hv⟩ := HR.out.2.1 i hlt
      have hfi : wr.frozen? ⟨w.heap.size, i, none⟩ = false := HR.out.2.2.1 _
      have i0 : (0 : Int) ≤ (i : Int) := by omega
      have i1 : (i : Int) < (xs.length : Int) := by omega
      go_wp2
      go_roundw
      case rel =>
        obtain ⟨r1, r2, r3, r4, r5⟩ := HR.out
        refine ⟨i + 1, by omega, by go_num, fun j y hj hy => ?_, fun j hj => ?_, fun j => ?_, r4.setCell (Nat.le_refl _) _, by simpa using r5⟩
        · rcases Nat.lt_or_ge j i with h | h
          · refine (World.cell?_setCell_other wr ⟨w.heap.size, i, none⟩ ⟨w.heap.size, j, none⟩ _ ?_).trans (r1 j y h hy)
            intro e; injection e; omega
          · obtain rfl : j = i := by omega
            have e2 : x = y := Option.some.inj (HX.out.symm.trans hy)
            rw [← e2]
            exact World.cell?_setCell_same _ _ _ hv
        · by_cases h : j = i
          · subst h; exact ⟨_, World.cell?_setCell_same _ _ _ hv⟩
          · obtain ⟨u, hu⟩ := r2 j hj
            refine ⟨u, (World.cell?_setCell_other wr ⟨w.heap.size, i, none⟩ ⟨w.heap.size, j, none⟩ _ ?_).trans hu⟩
            intro e; injection e; omega
        · exact (World.frozen?_setCell _ _ _ _).trans (r3 j)
      case measure => simp [intOf]; omega
    · go_wp2
      go_ret
      obtain ⟨r1, r2, r3, r4, r5⟩ := HR.out
      refine ⟨_, rfl, fun _ => ⟨w.heap.size, 0, rfl, Nat.le_refl _, r5, fun j x hx => ?_, r3⟩, r4⟩
      rw [Nat.zero_add]
      exact r1 j x (by have := (List.getElem?_eq_some_iff.1 hx).1; omega) hx
theorem toInt64S_any (A : Option Addr) (c : Nat) (xs : List Int) (w : World) (hx : Rd (Value.int .i64) w w.heap.size A xs) (hl : xs.length ≤ 1048576) :
    Calls Tryd.prog 22 #[.slice A xs.length c] w fun e w' => ∃ B d, e = .returned (.slice B xs.length d) ∧ Wr (Value.int .i64) w' w.heap.size B xs ∧ Below w.heap.size w w' :=
  (toInt64S_cap A c xs w hx hl).mono fun _ _ ⟨B, h1, h2, h3⟩ => ⟨B, _, h1, h2, h3⟩
end Go.Proofs.YtmgfceiomfiknaaDoor
