/- Marks on slices of notes: which cells they write, plainly. No condition but those that each theorem names. -/
import Derived.Test.YtbcikkaoohihhaaGreatDoorMrB
import Derived.Test.YtbcikkaoohihhaaGreatDoorStrS
import Derived.Test.YtbcikkaoohihhaaGreatDoorSoS
namespace Go.Proofs.YtbcikkaoohihhaaGreatDoor
open Go.RowKit Go.Sort

def Nt.wide (x : Nt) : Nat := x.terms.length + 7
def posN (xs : List Nt) (i : Nat) : Nat := ((xs.take i).map Nt.wide).sum
theorem posN_snoc {xs : List Nt} {k : Nat} {x : Nt} (h : xs[k]? = some x) : posN xs (k + 1) = posN xs k + x.wide := by
  unfold posN
  rw [List.take_add_one, h]
  simp
theorem posN_len (xs : List Nt) : ∀ k, k ≤ xs.length → 7 * k ≤ posN xs k
  | 0, _ => by omega
  | k + 1, hk => by
    have := posN_len xs k (by omega)
    rw [posN_snoc (List.getElem?_eq_getElem (show k < xs.length by omega))]
    unfold Nt.wide
    omega
theorem posN_le (xs : List Nt) (k : Nat) : posN xs k ≤ posN xs xs.length := by
  have h2 := congrArg List.sum (List.take_append_drop k (xs.map Nt.wide))
  rw [List.sum_append] at h2
  unfold posN
  rw [List.take_length, List.map_take, ← h2]
  omega
/-- A note whose cells hold marks from k on. -/
def mkNt (x : Nt) (k : Int) : Nt := ⟨mtext k, k + 1, k + 2, k + 3, marks (k + 4) x.terms.length, k + 4 + x.terms.length, k + 5 + x.terms.length, k + 6 + x.terms.length⟩
theorem mkNt_len (x : Nt) (k : Int) : (mkNt x k).terms.length = x.terms.length := marks_length _ _
def mkNts : List Nt → Int → List Nt
  | [], _ => []
  | x :: xs, k => mkNt x k :: mkNts xs (k + x.wide)
theorem mkNts_length : ∀ (xs : List Nt) (k : Int), (mkNts xs k).length = xs.length
  | [], _ => rfl
  | x :: xs, k => by simp [mkNts, mkNts_length xs]
theorem mkNts_get : ∀ (xs : List Nt) (k : Int) (j : Nat) (x : Nt), xs[j]? = some x → (mkNts xs k)[j]? = some (mkNt x (k + posN xs j))
  | [], _, _, _, h => by simp at h
  | y :: ys, k, 0, x, h => by
    simp at h
    subst h
    simp [mkNts, posN]
  | y :: ys, k, j + 1, x, h => by
    simp only [List.getElem?_cons_succ] at h
    simp only [mkNts, List.getElem?_cons_succ]
    rw [mkNts_get ys _ j x h]
    congr 2
    simp only [posN, List.take_succ_cons, List.map_cons, List.sum_cons]
    omega

/-- The block of a row of terms has an owner of its own, and lies below top. -/
def OwnT (own : Nat → Nat) (top k : Nat) (T : Option Addr) (n : Nat) : Prop := ∀ t o i, T = some ⟨t, o, i⟩ → 0 < n → own t = k ∧ t < top
/-- A slice of notes in blocks of its own, from base on and below top, no two of which are the same. -/
def WrNd (w : World) (base top : Nat) (A : Option Addr) (xs : List Nt) : Prop :=
  top ≤ w.heap.size ∧ (0 < xs.length → ∃ (b off : Nat) (own : Nat → Nat), A = some ⟨b, off, none⟩ ∧ base ≤ b ∧ b < top ∧ (∀ j, w.frozen? ⟨b, j, none⟩ = false) ∧ own b = 0 ∧
    ∀ j x, xs[j]? = some x → ∃ T c, RowAt w b (off + j * 8) (ntC x T c) ∧ WrT w base T c x.terms ∧ OwnT own top (j + 1) T x.terms.length)
theorem WrNd.rd {w : World} {base top : Nat} {A : Option Addr} {xs : List Nt} (h : WrNd w base top A xs) : RdNt w top A xs := fun hn => by
  obtain ⟨b, off, own, e, _, h2, _, _, hc⟩ := h.2 hn
  refine ⟨b, off, e, h2, fun j x hx => ?_⟩
  obtain ⟨T, c, r, t, o⟩ := hc j x hx
  refine ⟨T, c, r, ⟨fun hp => ?_, t.2⟩⟩
  obtain ⟨tb, tq, e2, _, _, h5, _⟩ := t.1 hp
  exact ⟨tb, tq, e2, (o _ _ _ e2 hp).2, h5⟩
theorem RowAt.of_block {w w' : World} {b o : Nat} {vs : List Value} (h : RowAt w b o vs) (hb : w'.heap[b]? = w.heap[b]?) : RowAt w' b o vs := fun i v hv => (World.cell?_of_block (a := ⟨b, o + i, none⟩) hb).trans (h i v hv)
theorem Wr.of_blocks {α : Type} {enc : α → Value} {A : Option Addr} {xs : List α} {B : Nat} {w w' : World} (hw : Wr enc w B A xs) (hs : w.heap.size ≤ w'.heap.size) (hk : ∀ t o i, A = some ⟨t, o, i⟩ → 0 < xs.length → t < w.heap.size → w'.heap[t]? = w.heap[t]?) : Wr enc w' B A xs := fun hn => by
  obtain ⟨b, off, e, h1, h2, hc, hf⟩ := hw hn
  have hb := hk b off none e hn h2
  exact ⟨b, off, e, h1, by omega, fun j x hx => (World.cell?_of_block (a := ⟨b, off + j, none⟩) hb).trans (hc j x hx), fun j => by have := hf j; simpa only [World.frozen?, hb] using this⟩
/-- Whoever leaves the blocks below top as they are leaves the slice. -/
theorem WrNd.keep {w w' : World} {base top : Nat} {A : Option Addr} {xs : List Nt} (h : WrNd w base top A xs) (hs : w.heap.size ≤ w'.heap.size) (hk : ∀ B, base ≤ B → B < top → w'.heap[B]? = w.heap[B]?) : WrNd w' base top A xs := by
  refine ⟨Nat.le_trans h.1 hs, fun hn => ?_⟩
  obtain ⟨b, off, own, e, h1, h2, hf, h3, hc⟩ := h.2 hn
  have hb := hk b h1 h2
  refine ⟨b, off, own, e, h1, h2, fun j => by have := hf j; simpa only [World.frozen?, hb] using this, h3, fun j x hx => ?_⟩
  obtain ⟨T, c, r, t, o⟩ := hc j x hx
  refine ⟨T, c, r.of_block hb, ⟨fun hp => ?_, t.2⟩, o⟩
  obtain ⟨tb, tq, e2, g1, g2, g3, g4⟩ := t.1 hp
  have hbt := hk tb g1 (o _ _ _ e2 hp).2
  exact ⟨tb, tq, e2, g1, by omega, fun j x hx => (World.cell?_of_block (a := ⟨tb, tq + j, none⟩) hbt).trans (g3 j x hx), fun j => by have := g4 j; simpa only [World.frozen?, hbt] using this⟩
theorem WrNd.next {w w' : World} {base top : Nat} {A : Option Addr} {xs : List Nt} (h : WrNd w base top A xs) (hb : Below top w w') : WrNd w' base top A xs := h.keep hb.size fun B _ h2 => hb.block B h2
theorem WrNd.more {w : World} {base base' top : Nat} {A : Option Addr} {xs : List Nt} (h : WrNd w base top A xs) (hb : base' ≤ base) : WrNd w base' top A xs := by
  refine ⟨h.1, fun hn => ?_⟩
  obtain ⟨b, off, own, e, h1, h2, hf, h3, hc⟩ := h.2 hn
  refine ⟨b, off, own, e, by omega, h2, hf, h3, fun j x hx => ?_⟩
  obtain ⟨T, c, r, t, o⟩ := hc j x hx
  exact ⟨T, c, r, t.more hb, o⟩

theorem putL_block (h o : Nat) {B : Nat} (hB : B ≠ h) : ∀ (i : Nat) (vs : List Value) (W : World), (putL h o i vs W).heap[B]? = W.heap[B]?
  | _, [], _ => rfl
  | i, v :: vs, W => by rw [putL, putL_block h o hB (i + 1) vs]; exact Below.heap_setCell W ⟨h, o + i, none⟩ _ B hB
/-- While marks are laid: the notes ahead of i hold theirs. -/
structure MkN (v : World) (base top : Nat) (b off : Nat) (own : Nat → Nat) (xs : List Nt) (k : Int) (i : Nat) (w : World) : Prop where
  row : ∀ j x, xs[j]? = some x → ∃ T c, RowAt w b (off + j * 8) (ntC (if j < i then mkNt x (k + posN xs j) else x) T c) ∧ WrT w base T c (if j < i then mkNt x (k + posN xs j) else x).terms ∧ OwnT own top (j + 1) T x.terms.length
  fr : ∀ j, w.frozen? ⟨b, j, none⟩ = false
  bel : Below base v w
  size : v.heap.size ≤ w.heap.size
  far : ∀ B, top ≤ B → B < v.heap.size → w.heap[B]? = v.heap[B]?
theorem MkN.start {w : World} {base top b off : Nat} {own : Nat → Nat} {xs : List Nt} {k : Int} (hf : ∀ j, w.frozen? ⟨b, j, none⟩ = false) (hc : ∀ j x, xs[j]? = some x → ∃ T c, RowAt w b (off + j * 8) (ntC x T c) ∧ WrT w base T c x.terms ∧ OwnT own top (j + 1) T x.terms.length) :
    MkN w base top b off own xs k 0 w := ⟨fun j x hx => by
    rw [if_neg (by omega)]
    exact hc j x hx, hf, Below.refl _ _, Nat.le_refl _, fun _ _ _ => rfl⟩
theorem MkN.done {v w : World} {base top b off : Nat} {own : Nat → Nat} {xs : List Nt} {k : Int} (h : MkN v base top b off own xs k xs.length w) (h0 : own b = 0) (hb : base ≤ b) (hbt : b < top) (ht : top ≤ v.heap.size) :
    WrNd w base top (some ⟨b, off, none⟩) (mkNts xs k) := by
  refine ⟨Nat.le_trans ht h.size, fun _ => ⟨b, off, own, rfl, hb, hbt, h.fr, h0, fun j y hy => ?_⟩⟩
  have hj : j < xs.length := by
    have := (List.getElem?_eq_some_iff.1 hy).1
    rwa [mkNts_length] at this
  obtain ⟨x, hx⟩ : ∃ x, xs[j]? = some x := ⟨_, List.getElem?_eq_getElem hj⟩
  rw [mkNts_get xs k j x hx] at hy
  obtain rfl := Option.some.inj hy
  obtain ⟨T, c, r, t, o⟩ := h.row j x hx
  rw [if_pos hj] at r t
  rw [mkNt_len]
  exact ⟨T, c, r, t, o⟩
/-- One round. -/
theorem MkN.step {v w w1 w3 : World} {base top b off : Nat} {own : Nat → Nat} {xs : List Nt} {k : Int} {i : Nat} {x : Nt} {T : Option Addr} {c : Nat} {q a1 a2 a3 a4 a5 a6 a7 : Int} (h : MkN v base top b off own xs k i w) (h0 : own b = 0) (hb : base ≤ b) (hbt : b < top) (ht : top ≤ v.heap.size) (hi : i < xs.length) (hx : xs[i]? = some x)
    (hr : RowAt w b (off + i * 8) (ntC x T c)) (hT : WrT w base T c x.terms) (hO : OwnT own top (i + 1) T x.terms.length)
    (hq : q = k + posN xs i) (e1 : a1 = q + 1) (e2 : a2 = q + 2) (e3 : a3 = q + 3) (e4 : a4 = q + 4) (e5 : a5 = q + 4 + x.terms.length) (e6 : a6 = q + 5 + x.terms.length) (e7 : a7 = q + 6 + x.terms.length)
    (hb1 : Below w.heap.size w w1)
    (hm : Wr (Value.int .i64) w3 base T (marks a4 x.terms.length)) (hb3 : Below base (putL b (off + i * 8) 0 [.string (mtext q), .int .i64 a1, .int .i64 a2, .int .i64 a3] w1) w3) (hs3 : w3.heap.size = (putL b (off + i * 8) 0 [.string (mtext q), .int .i64 a1, .int .i64 a2, .int .i64 a3] w1).heap.size)
    (ho3 : Others T x.terms.length (putL b (off + i * 8) 0 [.string (mtext q), .int .i64 a1, .int .i64 a2, .int .i64 a3] w1) w3) :
    MkN v base top b off own xs k (i + 1) (putL b (off + i * 8) 5 [.int .i64 a5, .int .i64 a6, .int .i64 a7] w3) := by
  subst e1 e2 e3 e4 e5 e6 e7 hq
  have hbw : b < w.heap.size := Nat.lt_of_lt_of_le hbt (Nat.le_trans ht h.size)
  generalize hP : ([.string (mtext (k + posN xs i)), .int .i64 (k + posN xs i + 1), .int .i64 (k + posN xs i + 2), .int .i64 (k + posN xs i + 3)] : List Value) = P at *
  generalize hQ : ([.int .i64 (k + posN xs i + 4 + x.terms.length), .int .i64 (k + posN xs i + 5 + x.terms.length), .int .i64 (k + posN xs i + 6 + x.terms.length)] : List Value) = Q at *
  have lP : P.length = 4 := by rw [← hP]; rfl
  have lQ : Q.length = 3 := by rw [← hQ]; rfl
  have sz3 : w3.heap.size = w1.heap.size := by rw [hs3, putL_size]
  -- block b in w3 is that of the four stores
  have hb3b : w3.heap[b]? = (putL b (off + i * 8) 0 P w1).heap[b]? := ho3 b (fun hn => by
    obtain ⟨tb, tq, e, _⟩ := hT.1 hn
    refine ⟨tb, tq, e, fun e2 => ?_⟩
    have := (hO tb tq none e hn).1
    rw [← e2, h0] at this
    omega)
  -- other blocks
  have oth : ∀ B, B ≠ b → (0 < x.terms.length → ∃ tb tq, T = some ⟨tb, tq, none⟩ ∧ B ≠ tb) → B < w.heap.size → (putL b (off + i * 8) 5 Q w3).heap[B]? = w.heap[B]? := fun B hB hBT hlt =>
    (putL_block b (off + i * 8) hB 5 Q w3).trans ((ho3 B hBT).trans ((putL_block b (off + i * 8) hB 0 P w1).trans (hb1.block B hlt)))
  have cellb : ∀ o, (∀ m, m < 8 → o ≠ off + i * 8 + m) → (putL b (off + i * 8) 5 Q w3).cell? ⟨b, o, none⟩ = w.cell? ⟨b, o, none⟩ := fun o ho =>
    (putL_other b (off + i * 8) 5 Q w3 (fun j hj => by rw [lQ] at hj; intro e; injection e with _ e; exact ho (5 + j) (by omega) (by omega))).trans
      ((World.cell?_of_block (a := ⟨b, o, none⟩) hb3b).trans
        ((putL_other b (off + i * 8) 0 P w1 (fun j hj => by rw [lP] at hj; intro e; injection e with _ e; exact ho j (by omega) (by omega))).trans (hb1.cell (p := ⟨b, o, none⟩) hbw)))
  refine ⟨fun j y hy => ?_, fun j => ?_, ?_, ?_, fun B h1 h2 => ?_⟩
  · rcases Nat.lt_trichotomy j i with hji | hji | hji
    · obtain ⟨T', c', r, t, o⟩ := h.row j y hy
      rw [if_pos hji] at r t
      rw [if_pos (by omega)]
      refine ⟨T', c', fun m u hu => ?_, ⟨Wr.of_blocks t.1 (by rw [putL_size, sz3]; exact hb1.size) (fun tb tq ti e hn hlt => ?_), t.2⟩, o⟩
      · have hm8 : m < 8 := (List.getElem?_eq_some_iff.1 hu).1
        rw [cellb _ (fun q hq => by omega)]
        exact r m u hu
      · rw [mkNt_len] at hn
        have hown := o tb tq ti e hn
        refine oth tb (fun e2 => ?_) (fun hn2 => ?_) hlt
        · have := hown.1; rw [e2, h0] at this; omega
        · obtain ⟨tb2, to2, e2, _⟩ := hT.1 hn2
          refine ⟨tb2, to2, e2, fun e3 => ?_⟩
          have h4 := (hO _ _ _ e2 hn2).1
          have h5 := hown.1
          rw [e3] at h5
          omega
    · subst hji
      obtain rfl := Option.some.inj (hx.symm.trans hy)
      rw [if_pos (by omega)]
      have near : ∀ m u, (ntC (mkNt x (k + posN xs j)) T c)[m]? = some u → (putL b (off + j * 8) 5 Q w3).cell? ⟨b, off + j * 8 + m, none⟩ = some u := fun m u hu => by
        have hm8 : m < 8 := (List.getElem?_eq_some_iff.1 hu).1
        have have8 : ∀ q, q < 8 → ∃ z, w1.cell? ⟨b, off + j * 8 + q, none⟩ = some z := fun q hq =>
          ⟨_, (hb1.cell (p := ⟨b, off + j * 8 + q, none⟩) hbw).trans (hr q _ (List.getElem?_eq_getElem (by exact hq)))⟩
        have ePut : ∀ q, q < 8 → ∃ z, (putL b (off + j * 8) 0 P w1).cell? ⟨b, off + j * 8 + q, none⟩ = some z := fun q hq => by
          by_cases h4 : q < 4
          · obtain ⟨z, hz⟩ : ∃ z, P[q]? = some z := ⟨_, List.getElem?_eq_getElem (by omega)⟩
            have := putL_same b (off + j * 8) 0 P w1 (fun m hm => by rw [lP] at hm; simpa using have8 m (by omega)) q z hz
            exact ⟨z, by simpa using this⟩
          · obtain ⟨z, hz⟩ := have8 q hq
            exact ⟨z, (putL_other b (off + j * 8) 0 P w1 (fun m hm => by rw [lP] at hm; intro e; injection e; omega)).trans hz⟩
        have e3 : ∀ q, w3.cell? ⟨b, off + j * 8 + q, none⟩ = (putL b (off + j * 8) 0 P w1).cell? ⟨b, off + j * 8 + q, none⟩ := fun q => World.cell?_of_block (a := ⟨b, off + j * 8 + q, none⟩) hb3b
        rcases Nat.lt_or_ge m 4 with h4 | h4
        · rw [putL_other b (off + j * 8) 5 Q w3 (fun q hq => by rw [lQ] at hq; intro e; injection e; omega), e3]
          have hu' : P[m]? = some u := by
            rw [← hP]
            rcases m with _ | _ | _ | _ | m
            · exact hu
            · exact hu
            · exact hu
            · exact hu
            · omega
          have := putL_same b (off + j * 8) 0 P w1 (fun m hm => by rw [lP] at hm; simpa using have8 m (by omega)) m u hu'
          simpa using this
        · rcases Nat.eq_or_lt_of_le h4 with h5 | h5
          · subst h5
            rw [putL_other b (off + j * 8) 5 Q w3 (fun q hq => by rw [lQ] at hq; intro e; injection e; omega), e3,
              putL_other b (off + j * 8) 0 P w1 (fun q hq => by rw [lP] at hq; intro e; injection e; omega), hb1.cell (p := ⟨b, off + j * 8 + 4, none⟩) hbw, hr 4 _ rfl, ← hu]
            show some (Value.slice T x.terms.length c) = some (Value.slice T (mkNt x (k + posN xs j)).terms.length c)
            rw [mkNt_len]
          · obtain ⟨q, rfl⟩ : ∃ q, m = 5 + q := ⟨m - 5, by omega⟩
            have hu' : Q[q]? = some u := by
              rw [← hQ]
              rcases q with _ | _ | _ | q
              · exact hu
              · exact hu
              · exact hu
              · omega
            have := putL_same b (off + j * 8) 5 Q w3 (fun m hm => by
              rw [lQ] at hm
              obtain ⟨z, hz⟩ := ePut (5 + m) (by omega)
              exact ⟨z, by rw [Nat.add_assoc]; exact (e3 _).trans hz⟩) q u hu'
            rw [Nat.add_assoc] at this
            exact this
      refine ⟨T, c, near, ⟨Wr.of_blocks (w := w3) (xs := (mkNt x (k + posN xs j)).terms) hm (by rw [putL_size]; exact Nat.le_refl _) (fun tb tq ti e hn hlt => ?_), by rw [mkNt_len]; exact hT.2⟩, hO⟩
      rw [mkNt_len] at hn
      exact putL_block b (off + j * 8) (fun e2 => by have := (hO _ _ _ e hn).1; rw [e2, h0] at this; omega) 5 Q w3
    · obtain ⟨T', c', r, t, o⟩ := h.row j y hy
      rw [if_neg (by omega)] at r t
      rw [if_neg (by omega)]
      refine ⟨T', c', fun m u hu => ?_, ⟨Wr.of_blocks t.1 (by rw [putL_size, sz3]; exact hb1.size) (fun tb tq ti e hn hlt => ?_), t.2⟩, o⟩
      · have hm8 : m < 8 := (List.getElem?_eq_some_iff.1 hu).1
        rw [cellb _ (fun q hq => by omega)]
        exact r m u hu
      · have hown := o tb tq ti e hn
        refine oth tb (fun e2 => ?_) (fun hn2 => ?_) hlt
        · have := hown.1; rw [e2, h0] at this; omega
        · obtain ⟨tb2, to2, e2, _⟩ := hT.1 hn2
          refine ⟨tb2, to2, e2, fun e3 => ?_⟩
          have h4 := (hO _ _ _ e2 hn2).1
          have h5 := hown.1
          rw [e3] at h5
          omega
  · rw [putL_frozen]
    have e1 : w3.frozen? ⟨b, j, none⟩ = (putL b (off + i * 8) 0 P w1).frozen? ⟨b, j, none⟩ := by simp only [World.frozen?, hb3b]
    rw [e1, putL_frozen, hb1.frozen (p := ⟨b, j, none⟩) hbw]
    exact h.fr j
  · exact putL_below b (off + i * 8) hb 5 Q ((putL_below b (off + i * 8) hb 0 P (h.bel.trans (hb1.mono (by omega)))).trans hb3)
  · rw [putL_size, sz3]; exact Nat.le_trans h.size hb1.size
  · have hB : B ≠ b := by omega
    refine (oth B hB (fun hn => ?_) (by have := h.size; omega)).trans (h.far B h1 h2)
    obtain ⟨tb, tq, e, _⟩ := hT.1 hn
    exact ⟨tb, tq, e, by have := (hO _ _ _ e hn).2; omega⟩
end Go.Proofs.YtbcikkaoohihhaaGreatDoor
