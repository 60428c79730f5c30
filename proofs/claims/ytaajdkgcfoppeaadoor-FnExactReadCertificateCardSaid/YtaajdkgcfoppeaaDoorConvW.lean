/- Convergents: both walks. No condition but those that each theorem names. -/
import Derived.Test.YtaajdkgcfoppeaaDoorExpW
import Derived.Deep.RegionHeld3
import Derived.Deep.RegionWith
namespace Go.Proofs.YtaajdkgcfoppeaaDoor
open Go.RowKit Go.Sort

/-- A slice of structs of s integers is a row of integers. -/
theorem Wr.of_ownS {α : Type} {enc : α → Value} {w : World} {base s : Nat} {e : TypeId} {v : Value} {n : Nat} {xs : List α} (h : w.ownsRow base e s v n (xs.map enc)) : xs.length = n * s ∧ ∃ A c, v = .slice A n c ∧ Wr enc w base A xs := by
  have hn : xs.length = n * s := by have := h.1; simpa using this
  refine ⟨hn, ?_⟩
  rcases h.2 with ⟨rfl, h0⟩ | ⟨g, cap, cur, rfl, hg, hh, hc, hm, hsz, ht⟩
  · exact ⟨none, 0, by rw [h0], fun hp => by
      exfalso
      rw [hn, h0] at hp
      simp at hp⟩
  · refine ⟨_, _, rfl, fun _ => ⟨g, 0, rfl, hg, ?_, fun j x hx => ?_, fun j => ?_⟩⟩
    · rcases Nat.lt_or_ge g w.heap.size with h1 | h1
      · exact h1
      · rw [Array.getElem?_eq_none h1] at hh; cases hh
    · have hx' : (xs.map enc)[j]? = some (enc x) := by rw [List.getElem?_map, hx]; rfl
      have := h.cells (g := g) rfl j _ hx'
      have ea : (⟨g, 0, none⟩ : Addr).add j = ⟨g, 0 + j, none⟩ := by
        unfold Addr.add
        by_cases hj : j = 0 <;> simp [hj]
      rw [ea] at this
      exact this
    · simp [World.frozen?, hh]

def frL (ps : List (Int × Int)) : List Int := ps.flatMap fun p => [p.1, p.2]
theorem frL_length (ps : List (Int × Int)) : (frL ps).length = ps.length * 2 := by
  induction ps with
  | nil => rfl
  | cons p ps ih => simp only [frL, List.flatMap_cons, List.length_append, List.length_cons, List.length_nil] at *; omega
theorem frL_snoc (ps : List (Int × Int)) (p q : Int) : frL (ps ++ [(p, q)]) = frL ps ++ [p, q] := by simp [frL]
theorem frL_get {ps : List (Int × Int)} {j : Nat} {p : Int × Int} (h : ps[j]? = some p) : (frL ps)[j * 2]? = some p.1 ∧ (frL ps)[j * 2 + 1]? = some p.2 := by
  induction ps generalizing j with
  | nil => simp at h
  | cons a ps ih =>
    cases j with
    | zero =>
      simp at h
      subst h
      simp [frL]
    | succ j =>
      have := ih (j := j) (by simpa using h)
      have e1 : (j + 1) * 2 = j * 2 + 1 + 1 := by omega
      simp only [frL, List.flatMap_cons] at *
      rw [e1]
      exact this

/-- The convergents that follow; none if one is no fraction. -/
def cvG : List Int → Int → Int → Int → Int → Option (List (Int × Int))
  | [], _, _, _, _ => some []
  | t :: ts, p, q, p0, q0 => if fracOk (t * p + p0) (t * q + q0) = true then (cvG ts (t * p + p0) (t * q + q0) p q).map ((t * p + p0, t * q + q0) :: ·) else none
def convs (ts : List Int) : Option (List (Int × Int)) := cvG ts 1 0 0 1
theorem cvG_step {ts : List Int} {k : Nat} {t p q p0 q0 : Int} (h : ts[k]? = some t) : cvG (ts.drop k) p q p0 q0 = if fracOk (t * p + p0) (t * q + q0) = true then (cvG (ts.drop (k + 1)) (t * p + p0) (t * q + q0) p q).map ((t * p + p0, t * q + q0) :: ·) else none := by
  obtain ⟨h1, h2⟩ := List.getElem?_eq_some_iff.1 h
  rw [List.drop_eq_getElem_cons h1, h2]; rfl
theorem cvG_end {ts : List Int} {k : Nat} {p q p0 q0 : Int} (h : ¬ k < ts.length) : cvG (ts.drop k) p q p0 q0 = some [] := by
  rw [List.drop_eq_nil_of_le (by omega)]; rfl
def bil (n : Int) : Prop := -1000000000 ≤ n ∧ n ≤ 1000000000

/-- What a call returns that makes a slice of fractions, and whether all went well. -/
def RetCv (w : World) (R : Option (List (Int × Int))) (e : Ending) (w' : World) : Prop :=
  ∃ A c, e = .returned (.tuple #[.slice A (R.getD []).length c, .bool R.isSome]) ∧ Wr (Value.int .i64) w' w.heap.size A (frL (R.getD [])) ∧ Below w.heap.size w w'
theorem RetCv.none_ {w w' : World} (h : Below w.heap.size w w') : RetCv w none (.returned (.tuple #[.slice none 0 0, .bool false])) w' := ⟨none, 0, rfl, fun h => absurd h (by simp [frL]), h⟩

/-- The cells of a new block, one by one. -/
theorem news_row (w : World) {C : Array Value} (T : TypeId) (vs : List Value) (h : C.toList = vs) : ∀ j u, vs[j]? = some u → (w.alloc (.cells C T)).cell? ((⟨w.heap.size, 0, none⟩ : Addr).add j) = some u := fun j u hu => by
  have ea : (⟨w.heap.size, 0, none⟩ : Addr).add j = ⟨w.heap.size, 0 + j, none⟩ := by
    unfold Addr.add
    by_cases hj : j = 0 <;> simp [hj]
  rw [ea, Nat.zero_add, cell_one, ← Array.getElem?_toList, h]
  exact hu
theorem map_snoc (out : List (Int × Int)) (x : Int × Int) (o : Option (List (Int × Int))) : o.map ((out ++ [x]) ++ ·) = (o.map (x :: ·)).map (out ++ ·) := by cases o <;> simp
end Go.Proofs.YtaajdkgcfoppeaaDoor
