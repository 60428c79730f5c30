/- Slices that read as lists; the statements' own comparing, marking and looking at slices of integers. No condition. -/
import Derived.Test.YtaajdkgcfoppeaaDoorBase
import Derived.Maps.AppendAt
import Derived.Deep.AppendLies
import Derived.OwnWalk
namespace Go.Proofs.YtaajdkgcfoppeaaDoor
open Go.RowKit Go.Sort

/-- A slice's address A leads to cells that read as the list xs, in a block below B. -/
def Rd {α : Type} (enc : α → Value) (w : World) (B : Nat) (A : Option Addr) (xs : List α) : Prop :=
  0 < xs.length → ∃ b off, A = some ⟨b, off, none⟩ ∧ b < B ∧ ∀ j x, xs[j]? = some x → w.cell? ⟨b, off + j, none⟩ = some (enc x)
/-- .. to cells in a block from base on, of which none is frozen. -/
def Wr {α : Type} (enc : α → Value) (w : World) (base : Nat) (A : Option Addr) (xs : List α) : Prop :=
  0 < xs.length → ∃ b off, A = some ⟨b, off, none⟩ ∧ base ≤ b ∧ b < w.heap.size ∧ (∀ j x, xs[j]? = some x → w.cell? ⟨b, off + j, none⟩ = some (enc x)) ∧ ∀ j, w.frozen? ⟨b, j, none⟩ = false

section
variable {α : Type} {enc : α → Value} {w w' : World} {B B' : Nat} {A : Option Addr} {xs : List α}
theorem Rd.nil_ : Rd enc w B A ([] : List α) := fun h => absurd h (by simp)
theorem Rd.below (h : Rd enc w B A xs) (hb : Below B w w') : Rd enc w' B A xs := fun hn => by
  obtain ⟨b, off, e, hlt, hc⟩ := h hn
  exact ⟨b, off, e, hlt, fun j x hx => (hb.cell (p := ⟨b, off + j, none⟩) hlt).trans (hc j x hx)⟩
theorem Rd.more (h : Rd enc w B A xs) (hB : B ≤ B') : Rd enc w B' A xs := fun hn => by
  obtain ⟨b, off, e, hlt, hc⟩ := h hn
  exact ⟨b, off, e, by omega, hc⟩
theorem Wr.rd (h : Wr enc w B A xs) : Rd enc w w.heap.size A xs := fun hn => by
  obtain ⟨b, off, e, _, hlt, hc, _⟩ := h hn
  exact ⟨b, off, e, hlt, hc⟩
theorem Wr.more (h : Wr enc w B A xs) (hB : B' ≤ B) : Wr enc w B' A xs := fun hn => by
  obtain ⟨b, off, e, h1, h2, hc⟩ := h hn
  exact ⟨b, off, e, by omega, h2, hc⟩
theorem Wr.below (h : Wr enc w B A xs) (hb : Below w.heap.size w w') : Wr enc w' B A xs := fun hn => by
  obtain ⟨b, off, e, h1, h2, hc, hf⟩ := h hn
  exact ⟨b, off, e, h1, Nat.lt_of_lt_of_le h2 hb.size, fun j x hx => (hb.cell (p := ⟨b, off + j, none⟩) h2).trans (hc j x hx), fun j => (hb.frozen (p := ⟨b, j, none⟩) h2).trans (hf j)⟩
theorem Wr.drew_ (h : Wr enc w B A xs) : Wr enc w.drew B A xs := h
theorem Wr.setLow (h : Wr enc w B A xs) {p : Addr} (hp : p.block < B) (u : Value) : Wr enc (w.setCell p u) B A xs := fun hn => by
  obtain ⟨b, off, e, h1, h2, hc, hf⟩ := h hn
  refine ⟨b, off, e, h1, by simpa using h2, fun j x hx => ?_, fun j => (World.frozen?_setCell _ _ _ _).trans (hf j)⟩
  refine (World.cell?_setCell_other w p ⟨b, off + j, none⟩ u ?_).trans (hc j x hx)
  intro e
  subst e
  exact absurd hp (Nat.not_lt.2 h1)
theorem Wr.of_own {base : Nat} {e : TypeId} {v : Value} {n : Nat} (h : w.ownsRow base e 1 v n (xs.map enc)) : n = xs.length ∧ ∃ A c, v = .slice A n c ∧ Wr enc w base A xs := by
  have hn : n = xs.length := by have := h.1; simp at this; omega
  refine ⟨hn, ?_⟩
  rcases h.2 with ⟨rfl, h0⟩ | ⟨g, cap, cur, rfl, hg, hh, hc, hm, hs, ht⟩
  · exact ⟨none, 0, by rw [h0], fun hp => by omega⟩
  · refine ⟨_, _, rfl, fun _ => ⟨g, 0, rfl, hg, ?_, fun j x hx => ?_, fun j => ?_⟩⟩
    · rcases Nat.lt_or_ge g w.heap.size with h1 | h1
      · exact h1
      · rw [Array.getElem?_eq_none h1] at hh; cases hh
    · have hx' : (xs.map enc)[j]? = some (enc x) := by rw [List.getElem?_map, hx]; rfl
      have := h.cells (g := g) rfl j _ hx'
      have ea : (⟨g, 0, none⟩ : Addr).add j = ⟨g, 0 + j, none⟩ := by
        unfold Addr.add
        by_cases hj : j = 0 <;> simp [hj]
      rw [ea] at this
      exact this
    · simp [World.frozen?, hh]
end

theorem own_below {w w' : World} {base : Nat} {e : TypeId} {size n : Nat} {v : Value} {xs : List Value} (h : w.ownsRow base e size v n xs) (hb : Below w.heap.size w w') : w'.ownsRow base e size v n xs := by
  obtain ⟨h1, h2⟩ := h
  refine ⟨h1, ?_⟩
  rcases h2 with h2 | ⟨g, cap, cur, hv, hg, hh, r⟩
  · exact .inl h2
  · have hlt : g < w.heap.size := by
      rcases Nat.lt_or_ge g w.heap.size with h | h
      · exact h
      · rw [Array.getElem?_eq_none h] at hh; cases hh
    exact .inr ⟨g, cap, cur, hv, hg, (hb.block g hlt).trans hh, r⟩
/-- Behind an append: what lay below the row's base is as it was. -/
theorem below_grown {w0 w w' : World} {base : Nat} {e : TypeId} {size n : Nat} {v : Value} {xs : List Value} (h : Below w0.heap.size w0 w) (hown : w.ownsRow base e size v n xs) (hbase : w0.heap.size ≤ base) (hg : w.grownBy w' v.ownBlock) : Below w0.heap.size w0 w' :=
  h.grown hg h.size (fun k hk => Nat.le_trans hbase (hown.lt k hk).1)
theorem own_cell {w w' : World} {base : Nat} {e : TypeId} {size n : Nat} {v : Value} {xs : List Value} (hown : w.ownsRow base e size v n xs) (hg : w.grownBy w' v.ownBlock) {p : Addr} (hp : p.block < base) (hs : p.block < w.heap.size) : w'.cell? p = w.cell? p :=
  World.cell?_of_block (hg.block p.block hs (fun e => by have := (hown.lt p.block e.symm).1; omega))
theorem own_slice {w : World} {base : Nat} {e : TypeId} {size n : Nat} {v : Value} {xs : List Value} (h : w.ownsRow base e size v n xs) : ∃ A c, v = .slice A n c := by
  rcases h.2 with ⟨rfl, rfl⟩ | ⟨g, cap, cur, rfl, _⟩
  · exact ⟨_, _, rfl⟩
  · exact ⟨_, _, rfl⟩
theorem own_nil {w : World} {base : Nat} {e : TypeId} {size : Nat} : w.ownsRow base e size (.slice none 0 0) 0 [] := World.ownsRow_nil _ _ _ _

theorem info64 : (Tryd.prog.info? 2).map (fun i => (i.zero, i.size, i.bytes)) = some (some (.int .i64 0), 1, 8) := by kernel_rfl

/-- What a call returns that makes a slice of integers, and a code. -/
def RetInts (w : World) (xs : List Int) (code : Int) (e : Ending) (w' : World) : Prop :=
  ∃ A c, e = .returned (.tuple #[.slice A xs.length c, .int .i64 code]) ∧ Wr (Value.int .i64) w' w.heap.size A xs ∧ Below w.heap.size w w'

/-- The marks that a statement lays: k, k + 1, .. -/
def marks (k : Int) : Nat → List Int
  | 0 => []
  | n + 1 => k :: marks (k + 1) n
theorem marks_length (k : Int) (n : Nat) : (marks k n).length = n := by
  induction n generalizing k with
  | zero => rfl
  | succ n ih => simp [marks, ih]
theorem marks_get (k : Int) (n j : Nat) (h : j < n) : (marks k n)[j]? = some (k + j) := by
  induction n generalizing k j with
  | zero => omega
  | succ n ih =>
    cases j with
    | zero => simp [marks]
    | succ j =>
      simp only [marks, List.getElem?_cons_succ]
      rw [ih (k + 1) j (by omega)]
      congr 1
      omega

theorem take_eq_succ {α : Type} {xs ys : List α} {k : Nat} {x : α} (h : xs.take k = ys.take k) (hx : xs[k]? = some x) (hy : ys[k]? = some x) : xs.take (k + 1) = ys.take (k + 1) := by
  rw [List.take_add_one, List.take_add_one, h, hx, hy]

set_option maxHeartbeats 400000 in
theorem eqInt64S_any (A B : Option Addr) (c d : Nat) (xs ys : List Int) (w : World) (hx : Rd (Value.int .i64) w w.heap.size A xs) (hy : Rd (Value.int .i64) w w.heap.size B ys) (hm : xs.length ≤ maxLen) (hm' : ys.length ≤ maxLen) :
    Calls Tryd.prog 18 #[.slice A xs.length c, .slice B ys.length d] w fun e w' => e = .returned (.bool (decide (xs = ys))) ∧ Below w.heap.size w w' := by
  unfold maxLen at hm hm'
  by_cases hl : xs.length = ys.length
  · have hl0 : ((xs.length : Int) != (ys.length : Int)) = false := by simp [hl]
    have HL := Lib.hid hl
    have hl1 : xs.length ≤ ys.length := by omega
    have hl2 : ys.length ≤ xs.length := by omega
    clear hl
    go_enter Tryd.func18, Tryd.ntmps18
    go_wp2
    go_loopw [5] (fun t wr => ∃ k : Nat, k ≤ xs.length ∧ t = .int .i64 k ∧ xs.take k = ys.take k ∧ ∃ n, wr = w.drewN n) (fun t _ => xs.length - (intOf t).toNat)
    case atStart => exact ⟨0, by omega, rfl, by simp, 0, rfl⟩
    case round =>
      obtain ⟨k, hk, rfl, ht, nn, rfl⟩ := hrel
      have HT := Lib.hid ht
      clear ht
      by_cases hlt : k < xs.length
      · obtain ⟨b, off, rfl, hb, hc⟩ := hx (by omega)
        obtain ⟨b', off', rfl, hb', hc'⟩ := hy (by omega)
        obtain ⟨x, hxk⟩ : ∃ x, xs[k]? = some x := ⟨_, List.getElem?_eq_getElem hlt⟩
        obtain ⟨y, hyk⟩ : ∃ y, ys[k]? = some y := ⟨_, List.getElem?_eq_getElem (by omega)⟩
        have c1 := hc k x hxk
        have c2 := hc' k y hyk
        have HX := Lib.hid hxk
        have HY := Lib.hid hyk
        clear hc hc' hxk hyk
        have i0 : (0 : Int) ≤ (k : Int) := by omega
        have i1 : (k : Int) < (xs.length : Int) := by omega
        have i2 : (k : Int) < (ys.length : Int) := by omega
        by_cases hxy : x = y
        · subst hxy
          go_wp2_with fail
          go_quiet (fail)
          go_wp2
          go_roundw
          case rel => exact ⟨k + 1, by omega, by go_num, take_eq_succ HT.out HX.out HY.out, _, rfl⟩
          case measure => simp [intOf]; omega
        · have hne : (x != y) = true := by simpa using hxy
          have hne' : (x == y) = false := by simpa using hxy
          go_wp2_with fail
          go_quiet (fail)
          go_wp2
          go_ret
          refine ⟨ret_bool ?_, ⟨rfl, rfl, rfl, Nat.le_refl _, fun _ _ => rfl⟩⟩
          symm
          rw [decide_eq_false_iff_not]
          rintro rfl
          exact hxy (Option.some.inj (HX.out.symm.trans HY.out))
      · go_wp2
        go_ret
        refine ⟨ret_bool ?_, ⟨rfl, rfl, rfl, Nat.le_refl _, fun _ _ => rfl⟩⟩
        symm
        rw [decide_eq_true_iff]
        have h := HT.out
        rw [List.take_of_length_le (by omega), List.take_of_length_le (by omega)] at h
        exact h
  · have hl0 : ((xs.length : Int) != (ys.length : Int)) = true := by simp; omega
    have hl1 : ((xs.length : Int) == (ys.length : Int)) = false := by simp; omega
    go_enter Tryd.func18, Tryd.ntmps18
    go_wp2
    go_ret
    exact ⟨ret_bool (by symm; rw [decide_eq_false_iff_not]; rintro rfl; exact hl rfl), Below.refl _ _⟩
/-- All blocks but that of a slice of n elements are as they were. -/
def Others (A : Option Addr) (n : Nat) (w w' : World) : Prop := ∀ B', (0 < n → ∃ b off, A = some ⟨b, off, none⟩ ∧ B' ≠ b) → w'.heap[B']? = w.heap[B']?
theorem Wr.apart {α : Type} {enc : α → Value} {w : World} {B : Nat} {A : Option Addr} {xs : List α} (h : Wr enc w B A xs) {B' : Nat} (hB : w.heap.size ≤ B') : 0 < xs.length → ∃ b off, A = some ⟨b, off, none⟩ ∧ B' ≠ b := fun hn => by
  obtain ⟨b, off, e, _, h2, _⟩ := h hn
  exact ⟨b, off, e, by omega⟩
theorem Others.cell {A : Option Addr} {n : Nat} {w w' : World} (h : Others A n w w') {B' : Nat} (hB : 0 < n → ∃ b off, A = some ⟨b, off, none⟩ ∧ B' ≠ b) (o : Nat) : w'.cell? ⟨B', o, none⟩ = w.cell? ⟨B', o, none⟩ :=
  World.cell?_of_block (a := ⟨B', o, none⟩) (h B' hB)

theorem markInt64S_any (A : Option Addr) (c : Nat) (xs : List Int) (base : Nat) (k : Int) (w : World) (hx : Wr (Value.int .i64) w base A xs) (hm : xs.length ≤ 1000000000000000) (hk : 0 ≤ k) (hk' : k ≤ 1000000000) :
    Calls Tryd.prog 19 #[.slice A xs.length c, .int .i64 k] w fun e w' => e = .returned (.int .i64 (k + xs.length)) ∧ Wr (Value.int .i64) w' base A (marks k xs.length) ∧ Below base w w' ∧ w'.heap.size = w.heap.size ∧ Others A xs.length w w' := by
  rcases Nat.eq_zero_or_pos xs.length with h0 | h0
  · obtain rfl : xs = [] := List.eq_nil_of_length_eq_zero h0
    go_enter Tryd.func19, Tryd.ntmps19
    go_wp2
    refine wp_loop_rounds 1 ?_
    rw [rounds_succ]
    go_wp2
    go_ret
    exact ⟨by simp, fun h => absurd h (by simp [marks]), Below.refl _ _, rfl, fun _ _ => rfl⟩
  · obtain ⟨b, off, rfl, hb0, hb, hc, hf⟩ := hx h0
    have hfr : ∀ j, w.frozen? ⟨b, off + j, none⟩ = false := fun j => hf _
    have HC := Lib.hid hc
    have HF := Lib.hid hf
    have HFR := Lib.hid hfr
    clear hc hf hfr
    have HN : Hid (∀ (w' : World) (i : Nat), i ≤ xs.length → True) := fun _ _ _ => trivial
    go_enter Tryd.func19, Tryd.ntmps19
    go_wp2
    go_loopw [5, 1] (fun t m wr => ∃ i : Nat, i ≤ xs.length ∧ t = .int .i64 i ∧ m = .int .i64 (k + i) ∧ Hid ((∀ j, j < i → wr.cell? ⟨b, off + j, none⟩ = some (.int .i64 (k + j))) ∧ (∀ j, j < xs.length → ∃ v, wr.cell? ⟨b, off + j, none⟩ = some v) ∧ (∀ j, wr.frozen? ⟨b, j, none⟩ = false) ∧ Below base w wr ∧ wr.heap.size = w.heap.size ∧ ∀ B', B' ≠ b → wr.heap[B']? = w.heap[B']?)) (fun t _ _ => xs.length - (intOf t).toNat)
    case atStart => exact ⟨0, by omega, rfl, by simp, fun _ h => absurd h (by omega), fun j hj => ⟨_, HC.out j _ (List.getElem?_eq_getElem hj)⟩, HF.out, Below.refl _ _, rfl, fun _ _ => rfl⟩
    case round =>
      obtain ⟨i, hi, rfl, rfl, HR⟩ := hrel
      by_cases hlt : i < xs.length
      · obtain ⟨v, hv⟩ := HR.out.2.1 i hlt
        have hfi : wr.frozen? ⟨b, off + i, none⟩ = false := HR.out.2.2.1 _
        have i0 : (0 : Int) ≤ (i : Int) := by omega
        have i1 : (i : Int) < (xs.length : Int) := by omega
        go_wp2
        go_roundw
        case rel =>
          obtain ⟨r1, r2, r3, r4, r5, r6⟩ := HR.out
          refine ⟨i + 1, by omega, by go_num, val_int (by omega), fun j hj => ?_, fun j hj => ?_, fun j => ?_, r4.setCell (by exact hb0) _, by simp [r5], fun B' hB => (Below.heap_setCell wr ⟨b, off + i, none⟩ _ B' hB).trans (r6 B' hB)⟩
          · rcases Nat.lt_or_ge j i with h | h
            · refine (World.cell?_setCell_other wr ⟨b, off + i, none⟩ ⟨b, off + j, none⟩ _ ?_).trans (r1 j h)
              intro e; injection e; omega
            · obtain rfl : j = i := by omega
              exact World.cell?_setCell_same _ _ _ hv
          · by_cases h : j = i
            · subst h; exact ⟨_, World.cell?_setCell_same _ _ _ hv⟩
            · obtain ⟨u, hu⟩ := r2 j hj
              refine ⟨u, (World.cell?_setCell_other wr ⟨b, off + i, none⟩ ⟨b, off + j, none⟩ _ ?_).trans hu⟩
              intro e; injection e; omega
          · exact (World.frozen?_setCell _ _ _ _).trans (r3 j)
        case measure => simp [intOf]; omega
      · go_wp2
        go_ret
        obtain ⟨r1, r2, r3, r4, r5, r6⟩ := HR.out
        refine ⟨ret_int (by omega), fun _ => ⟨b, off, rfl, hb0, by omega, fun j x hx => ?_, r3⟩, r4, r5, fun B' hB => r6 B' (by
          obtain ⟨b', off', e, hne⟩ := hB h0
          injection e with e
          injection e with e1
          omega)⟩
        have hj : j < xs.length := by
          have := (List.getElem?_eq_some_iff.1 hx).1
          rwa [marks_length] at this
        rw [marks_get k _ j hj] at hx
        injection hx with hx
        subst hx
        exact r1 j (by omega)

theorem heldInt64S_any (A : Option Addr) (c : Nat) (n : Nat) (k : Int) (w : World) (hx : Rd (Value.int .i64) w w.heap.size A (marks k n)) (hm : n ≤ 1000000000000000) (hk : 0 ≤ k) (hk' : k ≤ 1000000000) :
    Calls Tryd.prog 20 #[.slice A n c, .int .i64 k] w fun e w' => e = .returned (.int .i64 (k + n)) ∧ w = w' := by
  go_enter Tryd.func20, Tryd.ntmps20
  go_wp2
  go_loop [5, 1] (fun t m => ∃ i : Nat, i ≤ n ∧ t = .int .i64 i ∧ m = .int .i64 (k + i)) (fun t _ => n - (intOf t).toNat)
  case atStart => exact ⟨0, by omega, rfl, by simp⟩
  case round =>
    obtain ⟨i, hi, rfl, rfl⟩ := hrel
    by_cases hlt : i < n
    · obtain ⟨b, off, rfl, hb, hc⟩ := hx (by rw [marks_length]; omega)
      have hci := hc i _ (marks_get k n i hlt)
      clear hc
      have i0 : (0 : Int) ≤ (i : Int) := by omega
      have i1 : (i : Int) < (n : Int) := by omega
      go_wp2
      go_round
      case rel => exact ⟨i + 1, by omega, by go_num, val_int (by omega)⟩
      case measure => simp [intOf]; omega
    · go_wp2
      go_ret
      exact ⟨ret_int (by omega), rfl⟩
theorem madeCell {w : World} {C : Array Value} {E : TypeId} {j : Nat} (h : j < C.size) : ∃ v, (w.alloc (.cells C E)).cell? ⟨w.heap.size, j, none⟩ = some v := by
  refine ⟨C[j], ?_⟩
  rw [World.cell?_alloc_at _ _ _ _ rfl]
  exact Array.getElem?_eq_getElem h

end Go.Proofs.YtaajdkgcfoppeaaDoor
