/- Notes of fifths: the sort by their heights. No condition but those that each theorem names. -/
import Derived.Test.YtdjnblkgeaphmaaScaleP
import Derived.Shelf.SlSortCmp.NoneTotal
namespace Go.Proofs.Ytdjnblkgeaphmaa
open Go.RowKit Go.Sort

/-! The sort, over the forty notes as a type of their own. -/
def fz (i : Nat) : Fin 40 := ⟨i % 40, Nat.mod_lt _ (by omega)⟩
def encF (x : Fin 40) : Value := .int .i64 (x.val : Int)
def cfF (x y : Fin 40) : Int := cmpN x.val y.val
theorem ltF (x y : Fin 40) : ltOf cfF x y = decide (rk x.val < rk y.val) := cmpN_rk (by omega) (by omega)
theorem swoF : SWO (ltOf cfF) where
  irrefl x := by rw [ltF]; simp
  trans x y z h1 h2 := by rw [ltF] at *; simp at *; omega
  ntrans x y z h1 h2 := by rw [ltF] at *; simp at *; omega
theorem totF (x y : Fin 40) (h1 : ltOf cfF x y = false) (h2 : ltOf cfF y x = false) : x = y := by
  rw [ltF] at *
  simp at *
  exact Fin.ext (rk_inj (by omega) (by omega) (by omega))
def allF (n : Nat) : Array (Fin 40) := ((List.range n).map fz).toArray
def srtF (n : Nat) : Array (Fin 40) := ((srt n).map fz).toArray
def sortedB : List Nat → Bool
  | [] => true
  | a :: l => l.all (fun b => decide (rk a < rk b)) && sortedB l
theorem sortedB_get : ∀ {l : List Nat}, sortedB l = true → ∀ i j, i < j → j < l.length → rk (l.getD i 0) < rk (l.getD j 0)
  | a :: l, h, i, j, hij, hj => by
    unfold sortedB at h
    rw [Bool.and_eq_true] at h
    obtain ⟨j', rfl⟩ : ∃ j', j = j' + 1 := ⟨j - 1, by omega⟩
    have hj' : j' < l.length := by simpa using hj
    cases i with
    | zero =>
      have := List.all_eq_true.1 h.1 (l.getD j' 0) (by rw [List.getD_eq_getElem?_getD, List.getElem?_eq_getElem hj']; exact List.getElem_mem hj')
      simpa using this
    | succ i' => simpa using sortedB_get h.2 i' j' (by omega) hj'
theorem srt_facts {n : Nat} (h : n ≤ 39) : sortedB (srt (n + 1)) = true ∧ ((srt (n + 1)).map fz).isPerm ((List.range (n + 1)).map fz) = true ∧ (srt (n + 1)).all (fun a => decide (a < 40)) = true := by
  have := all40_of (p := fun n => decide (sortedB (srt (n + 1)) = true ∧ ((srt (n + 1)).map fz).isPerm ((List.range (n + 1)).map fz) = true ∧ (srt (n + 1)).all (fun a => decide (a < 40)) = true)) (by decide +kernel) h
  exact of_decide_eq_true this
theorem allF_size (n : Nat) : (allF n).size = n := by simp [allF]
theorem srtF_size {n : Nat} (h : n ≤ 40) : (srtF n).size = n := by simp [srtF, srt_len h]
theorem srtF_get {n j : Nat} (hn : n ≤ 40) (hj : j < n) : (srtF n)[j]! = fz ((srt n).getD j 0) := by
  have hl := srt_len hn
  rw [getElem!_pos _ j (by rw [srtF_size hn]; exact hj)]
  simp [srtF, List.getD_eq_getElem?_getD, List.getElem?_eq_getElem (show j < (srt n).length by omega)]
/-- What the sort makes is what the list tells. -/
theorem sort_is {n : Nat} (h1 : 1 ≤ n) (h2 : n ≤ 40) : ((allF n).toList.mergeSort fun x y => !(ltOf cfF) y x).toArray = srtF n := by
  obtain ⟨m, rfl⟩ : ∃ m, n = m + 1 := ⟨n - 1, by omega⟩
  obtain ⟨f1, f2, f3⟩ := srt_facts (n := m) (by omega)
  suffices hsu : (srtF (m + 1)).toList = (allF (m + 1)).toList.mergeSort fun x y => !(ltOf cfF) y x by
    rw [← hsu]
  refine sorted_unique_holds swoF totF (allF (m + 1)) (srtF (m + 1)) ⟨by rw [srtF_size h2, allF_size], fun i hi => ?_, ?_⟩ fun i j _ hij hj => ?_
  · rw [allF_size] at hi
    rw [getElem!_neg _ i (by rw [srtF_size h2]; omega), getElem!_neg _ i (by rw [allF_size]; omega)]
  · have e1 : ((srtF (m + 1)).extract 0 (allF (m + 1)).size).toList = (srt (m + 1)).map fz := by
      rw [allF_size]
      simp [srtF, List.take_of_length_le, srt_len h2]
    have e2 : ((allF (m + 1)).extract 0 (allF (m + 1)).size).toList = (List.range (m + 1)).map fz := by simp [allF, List.take_of_length_le]
    rw [e1, e2]
    exact List.isPerm_iff.1 f2
  · rw [allF_size] at hj
    rw [srtF_get h2 hj, srtF_get h2 (by omega), ltF, decide_eq_false_iff_not]
    have hl := srt_len h2
    have a1 := List.all_eq_true.1 f3 ((srt (m + 1)).getD i 0) (by rw [List.getD_eq_getElem?_getD, List.getElem?_eq_getElem (by omega)]; exact List.getElem_mem _)
    have a2 := List.all_eq_true.1 f3 ((srt (m + 1)).getD j 0) (by rw [List.getD_eq_getElem?_getD, List.getElem?_eq_getElem (by omega)]; exact List.getElem_mem _)
    have := sortedB_get f1 i j hij (by omega)
    simp only [decide_eq_true_eq] at a1 a2
    have z1 : (fz ((srt (m + 1)).getD i 0)).val = (srt (m + 1)).getD i 0 := Nat.mod_eq_of_lt a1
    have z2 : (fz ((srt (m + 1)).getD j 0)).val = (srt (m + 1)).getD j 0 := Nat.mod_eq_of_lt a2
    rw [z1, z2]
    omega
theorem srt_val {n j : Nat} {x : Int} (hn : n ≤ 40) (hj : j < n) (hx : (srtI n)[j]? = some x) : ((fz ((srt n).getD j 0)).val : Int) = x := by
  obtain ⟨m, rfl⟩ : ∃ m, n = m + 1 := ⟨n - 1, by omega⟩
  have hl := srt_len hn
  have a1 := List.all_eq_true.1 (srt_facts (n := m) (by omega)).2.2 ((srt (m + 1)).getD j 0) (by rw [List.getD_eq_getElem?_getD, List.getElem?_eq_getElem (by omega)]; exact List.getElem_mem _)
  simp only [decide_eq_true_eq] at a1
  have z : (fz ((srt (m + 1)).getD j 0)).val = (srt (m + 1)).getD j 0 := Nat.mod_eq_of_lt a1
  rw [z]
  unfold srtI at hx
  rw [List.getElem?_map, List.getElem?_eq_getElem (by omega), Option.map_some] at hx
  rw [← Option.some.inj hx, List.getD_eq_getElem?_getD, List.getElem?_eq_getElem (by omega)]
  rfl
end Go.Proofs.Ytdjnblkgeaphmaa
