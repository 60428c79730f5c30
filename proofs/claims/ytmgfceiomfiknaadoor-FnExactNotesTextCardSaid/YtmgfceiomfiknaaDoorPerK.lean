/- Surds as keys of a map. No condition but those that each theorem names. -/
import Derived.Test.YtmgfceiomfiknaaDoorPerP
import Derived.Test.YtmgfceiomfiknaaDoorMapK
import Derived.Test.YtmgfceiomfiknaaDoorBoxW
namespace Go.Proofs.YtmgfceiomfiknaaDoor
open Go.RowKit Go.Sort Go.Maps Go.WideMaps

def sdV (s : Sd) : Value := .agg #[.int .i64 s.1, .int .i64 s.2.1, .int .i64 s.2.2]
/-- Surds as a row of integers. -/
def sdL (L : List Sd) : List Int := L.flatMap fun s => [s.1, s.2.1, s.2.2]
theorem sdL_length (L : List Sd) : (sdL L).length = L.length * 3 := by
  induction L with
  | nil => rfl
  | cons p ps ih => simp only [sdL, List.flatMap_cons, List.length_append, List.length_cons, List.length_nil] at *; omega
theorem sdL_snoc (L : List Sd) (s : Sd) : sdL (L ++ [s]) = sdL L ++ [s.1, s.2.1, s.2.2] := by simp [sdL]
theorem sdL_get {L : List Sd} {j : Nat} {s : Sd} (h : L[j]? = some s) : (sdL L)[j * 3]? = some s.1 ∧ (sdL L)[j * 3 + 1]? = some s.2.1 ∧ (sdL L)[j * 3 + 2]? = some s.2.2 := by
  induction L generalizing j with
  | nil => simp at h
  | cons a ps ih =>
    cases j with
    | zero =>
      simp at h
      subst h
      simp [sdL]
    | succ j =>
      have := ih (j := j) (by simpa using h)
      have e1 : (j + 1) * 3 = j * 3 + 1 + 1 + 1 := by omega
      simp only [sdL, List.flatMap_cons] at *
      rw [e1]
      exact this

theorem klS_ex : ∃ f : Sd → Lit, ∀ s, sdOk s = true → keyOf Tryd.prog 58 (sdV s) = some (f s) :=
  ⟨fun s => (keyOf Tryd.prog 58 (sdV s)).getD (.bool false), fun s h => by
    obtain ⟨⟨d1, d2⟩, _, ⟨p1, p2⟩, ⟨q1, q2⟩, _⟩ := surdB_true.1 h
    obtain ⟨kl, h⟩ := keyOf_surd (wf64 (n := s.1) (by omega) (by omega)) (wf64 (n := s.2.1) (by omega) (by omega)) (wf64 (n := s.2.2) (by omega) (by omega))
    unfold sdV
    simp only [h]
    rfl⟩
noncomputable def klS : Sd → Lit := Classical.choose klS_ex
theorem klS_key {s : Sd} (h : sdOk s = true) : keyOf Tryd.prog 58 (sdV s) = some (klS s) := Classical.choose_spec klS_ex s h
theorem sdV_inj {s t : Sd} (h : sdV s = sdV t) : s = t := by
  unfold sdV at h
  simp at h
  obtain ⟨a, b, c⟩ := h
  exact Prod.ext a (Prod.ext b c)
theorem klS_inj {s t : Sd} (hs : sdOk s = true) (ht : sdOk t = true) (h : klS s = klS t) : s = t := by
  have h1 := klS_key hs
  have h2 := klS_key ht
  rw [h] at h1
  exact sdV_inj (keyedSurd.inj h1 h2)
theorem klS_lit {s : Sd} (h : sdOk s = true) : WideAt.IsKeyLit (klS s) := keyedSurd.key (klS_key h)

/-- The map tells of each surd of a list its place. -/
def MpS (L : List Sd) (D : DataW Unit) : Prop := IsMap D ∧ ∀ s, sdOk s = true → has D (klS s) = decide (s ∈ L) ∧ (s ∈ L → ∀ z, D.atKey (klS s) z = .lit (.int .i64 (L.idxOf s : Int)))
theorem MpS.nil_ : MpS [] (.map []) := ⟨isMap_empty, fun s _ => ⟨by simp [has], fun h => absurd h (by simp)⟩⟩
theorem MpS.push {L : List Sd} {D : DataW Unit} {s : Sd} (h : MpS L D) (hs : sdOk s = true) (hn : s ∉ L) : MpS (L ++ [s]) (D.put (klS s) (.lit (.int .i64 (L.length : Int)))) := by
  refine ⟨h.1.put _ _, fun t ht => ?_⟩
  by_cases e : t = s
  · subst e
    refine ⟨by rw [has_put_same h.1 (klS_lit ht)]; simp, fun _ z => ?_⟩
    rw [atKey_put_same h.1 (klS_lit ht), List.idxOf_append, if_neg hn]
    simp
  · have hk : klS t ≠ klS s := fun h' => e (klS_inj ht hs h')
    have hm : (t ∈ L ++ [s]) ↔ t ∈ L := by simp [e]
    refine ⟨by rw [has_put_other hk, (h.2 t ht).1]; simp [e], fun hm' z => ?_⟩
    have hmL := hm.1 hm'
    rw [atKey_put_other hk, (h.2 t ht).2 hmL, List.idxOf_append, if_pos hmL]
theorem own_setFar {w : World} {base : Nat} {e : TypeId} {size n : Nat} {v : Value} {xs : List Value} (h : w.ownsRow base e size v n xs) {g j : Nat} (u : Value) (hg : g < base) : (w.setCell ⟨g, j, none⟩ u).ownsRow base e size v n xs := by
  obtain ⟨h1, h2⟩ := h
  refine ⟨h1, ?_⟩
  rcases h2 with h2 | ⟨g', cap, cur, hv, hb, hh, r⟩
  · exact .inl h2
  · refine .inr ⟨g', cap, cur, hv, hb, (Below.heap_setCell w ⟨g, j, none⟩ u g' ?_).trans hh, r⟩
    intro e
    have e : g' = g := e
    omega
theorem own_far {w : World} {base : Nat} {e : TypeId} {size n : Nat} {v : Value} {xs : List Value} (h : w.ownsRow base e size v n xs) {g : Nat} (hg : g < base) : v.ownBlock ≠ some g := fun e => by have := (h.lt g e).1; omega
end Go.Proofs.YtmgfceiomfiknaaDoor
