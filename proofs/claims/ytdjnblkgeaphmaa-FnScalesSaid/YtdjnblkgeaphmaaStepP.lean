/- Steps of scales: the plain law. No condition but those that each theorem names. -/
import Derived.Test.YtdjnblkgeaphmaaScaleP
import Derived.Test.YtdjnblkgeaphmaaConvW
import Derived.Test.YtdjnblkgeaphmaaMapK
namespace Go.Proofs.Ytdjnblkgeaphmaa
open Go.RowKit Go.Sort

/-- The heights of the first n notes, and the octave. -/
def hts (n : Nat) : List (Int × Int) := (srt n).map (fun a : Nat => ((a : Int), (a : Int) + (octv a : Int))) ++ [(0, -1)]
def prAt (n j : Nat) : Int × Int := (((hts n).getD (j + 1) (0, 0)).1 - ((hts n).getD j (0, 0)).1, ((hts n).getD (j + 1) (0, 0)).2 - ((hts n).getD j (0, 0)).2)
def prs (n k : Nat) : List (Int × Int) := (List.range k).map (prAt n)
def addP (acc : List (Int × Int)) (p : Int × Int) : List (Int × Int) := if acc.any (fun q => q == p) then acc else acc ++ [p]
def cntP (n : Nat) : Nat := ((prs n n).foldl addP []).length

/-- A number into a list that ascends, once. -/
def stepF (x : Int) (s : List Int × Bool) (y : Int) : List Int × Bool := if !s.2 && decide (x ≤ y) then ((if x < y then s.1 ++ [x] else s.1) ++ [y], true) else (s.1 ++ [y], s.2)
def endF (x : Int) (s : List Int × Bool) : List Int := if s.2 then s.1 else s.1 ++ [x]
def putL' (l : List Int) (x : Int) : List Int := endF x (l.foldl (stepF x) ([], false))
def dfAt (n j : Nat) : Int := ((srtI n).getD (j + 1) 0) - ((srtI n).getD j 0)
def dfs (n k : Nat) : List Int := (List.range k).map (dfAt n)
def cntS (n : Nat) : Nat := ((dfs n n).foldl putL' []).length

theorem cnt_same {n : Nat} (h1 : 1 ≤ n) (h2 : n ≤ 40) : cntP n = cntS n := by
  obtain ⟨m, rfl⟩ : ∃ m, n = m + 1 := ⟨n - 1, by omega⟩
  have := all40_of (p := fun m => decide (cntP (m + 1) = cntS (m + 1))) (by decide +kernel) (show m ≤ 39 by omega)
  exact of_decide_eq_true this
def smallI (x : Int) : Bool := decide (-1000 ≤ x) && decide (x ≤ 1000)
theorem smallI_true {x : Int} (h : smallI x = true) : -1000 ≤ x ∧ x ≤ 1000 := by simpa [smallI] using h
theorem hts_small {n j : Nat} (h1 : 1 ≤ n) (h2 : n ≤ 40) (hj : j ≤ n) : (hts n).length = n + 1 ∧ smallI ((hts n).getD j (0, 0)).1 = true ∧ smallI ((hts n).getD j (0, 0)).2 = true ∧ (hts n).getD 0 (0, 0) = (0, 0) := by
  obtain ⟨m, rfl⟩ : ∃ m, n = m + 1 := ⟨n - 1, by omega⟩
  have := all40_of (p := fun m => (List.range (m + 2)).all fun j => decide ((hts (m + 1)).length = m + 2 ∧ smallI ((hts (m + 1)).getD j (0, 0)).1 = true ∧ smallI ((hts (m + 1)).getD j (0, 0)).2 = true ∧ (hts (m + 1)).getD 0 (0, 0) = (0, 0))) (by decide +kernel) (show m ≤ 39 by omega)
  exact of_decide_eq_true (List.all_eq_true.1 this j (List.mem_range.2 (by omega)))
theorem hts_get {n j : Nat} (h1 : 1 ≤ n) (h2 : n ≤ 40) (hj : j ≤ n) : (hts n)[j]? = some ((hts n).getD j (0, 0)) := by
  have hl := (hts_small (j := 0) h1 h2 (by omega)).1
  rw [List.getD_eq_getElem?_getD, List.getElem?_eq_getElem (by omega)]; rfl
theorem dfs_small {n j : Nat} (h1 : 1 ≤ n) (h2 : n ≤ 40) (hj : j ≤ n) : smallI ((srtI n).getD j 0) = true := by
  obtain ⟨m, rfl⟩ : ∃ m, n = m + 1 := ⟨n - 1, by omega⟩
  have := all40_of (p := fun m => (List.range (m + 2)).all fun j => decide (smallI ((srtI (m + 1)).getD j 0) = true)) (by decide +kernel) (show m ≤ 39 by omega)
  exact of_decide_eq_true (List.all_eq_true.1 this j (List.mem_range.2 (by omega)))
theorem pr_small {n j : Nat} (h1 : 1 ≤ n) (h2 : n ≤ 40) (hj : j < n) : smallI (prAt n j).1 = true ∧ smallI (prAt n j).2 = true := by
  obtain ⟨m, rfl⟩ : ∃ m, n = m + 1 := ⟨n - 1, by omega⟩
  have := all40_of (p := fun m => (List.range (m + 1)).all fun j => decide (smallI (prAt (m + 1) j).1 = true ∧ smallI (prAt (m + 1) j).2 = true)) (by decide +kernel) (show m ≤ 39 by omega)
  exact of_decide_eq_true (List.all_eq_true.1 this j (List.mem_range.2 (by omega)))
theorem putL'_len (l : List Int) (x : Int) : (putL' l x).length ≤ l.length + 1 := by
  have h : ∀ (l : List Int) (s : List Int × Bool), (endF x (l.foldl (stepF x) s)).length ≤ s.1.length + l.length + (if s.2 then 0 else 1) := by
    intro l
    induction l with
    | nil => intro s; unfold endF; obtain ⟨a, b⟩ := s; cases b <;> simp
    | cons y ys ih =>
      intro s
      obtain ⟨a, b⟩ := s
      simp only [List.foldl_cons]
      refine Nat.le_trans (ih _) ?_
      unfold stepF
      cases b
      · by_cases hxy : x ≤ y
        · by_cases hlt : x < y <;> simp [hxy, hlt] <;> omega
        · simp [hxy]; omega
      · simp; omega
  have := h l ([], false)
  unfold putL'
  simp at this
  omega

theorem klN_ex : ∃ f : Int × Int → Lit, ∀ p, smallI p.1 = true → smallI p.2 = true → keyOf Try.prog 145 (.agg #[.int .i64 p.1, .int .i64 p.2]) = some (f p) :=
  ⟨fun p => (keyOf Try.prog 145 (.agg #[.int .i64 p.1, .int .i64 p.2])).getD (.bool false), fun p h1 h2 => by
    obtain ⟨a1, a2⟩ := smallI_true h1
    obtain ⟨b1, b2⟩ := smallI_true h2
    obtain ⟨kl, h⟩ := keyOf_note (wf64 (n := p.1) (by omega) (by omega)) (wf64 (n := p.2) (by omega) (by omega))
    simp only [h]
    rfl⟩
/-- The keys of a map, as its own words. -/
noncomputable def klN : Int × Int → Lit := Classical.choose klN_ex
theorem klN_key {p : Int × Int} (h1 : smallI p.1 = true) (h2 : smallI p.2 = true) : keyOf Try.prog 145 (.agg #[.int .i64 p.1, .int .i64 p.2]) = some (klN p) := Classical.choose_spec klN_ex p h1 h2
end Go.Proofs.Ytdjnblkgeaphmaa
