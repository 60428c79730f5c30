/- The least unit of a root: the plain law. No condition but those that each theorem names. -/
import Derived.Test.YtaajdkgcfoppeaaDoorUnitP
namespace Go.Proofs.YtaajdkgcfoppeaaDoor
open Go.RowKit Go.Sort

/-- A pair that is plain for d. -/
def plB (d x y : Int) : Bool := inR x (-1000000000) 1000000000 && (inR y (-1000000000) 1000000000 && decide (y * y ≤ 1000000000000000000 / d))
theorem plB_true {d x y : Int} : plB d x y = true ↔ (-1000000000 ≤ x ∧ x ≤ 1000000000) ∧ (-1000000000 ≤ y ∧ y ≤ 1000000000) ∧ y * y ≤ 1000000000000000000 / d := by simp [plB, inR]
def smB (x y : Int) : Bool := decide ((x.natAbs : Int) ≤ 1000000000) && decide ((y.natAbs : Int) ≤ 1000000000)
theorem smB_true {x y : Int} : smB x y = true ↔ (x.natAbs : Int) ≤ 1000000000 ∧ (y.natAbs : Int) ≤ 1000000000 := by simp [smB]
/-- The program's way: a pair that is not plain ends it. -/
def unI (d : Int) : List Int → Int → Int → Int → Int → Option (Int × Int)
  | [], x, y, _, _ => some (x, y)
  | t :: ts, x, y, x0, y0 => if plB d (t * x + x0) (t * y + y0) = true then unI d ts (t * x + x0) (t * y + y0) x y else none
/-- The reference's way: numbers that are too great end it. -/
def unS : List Int → Int → Int → Int → Int → Option (Int × Int)
  | [], x, y, _, _ => some (x, y)
  | t :: ts, x, y, x0, y0 => if smB (t * x + x0) (t * y + y0) = true then unS ts (t * x + x0) (t * y + y0) x y else none
/-- Numbers that rise. -/
def MonU (x y x0 y0 : Int) : Prop := 0 ≤ x0 ∧ x0 ≤ x ∧ 0 ≤ y0 ∧ y0 ≤ y
theorem MonU.step {x y x0 y0 t : Int} (h : MonU x y x0 y0) (ht : 1 ≤ t) : MonU (t * x + x0) (t * y + y0) x y ∧ x ≤ t * x + x0 ∧ y ≤ t * y + y0 := by
  obtain ⟨a, b, c, d⟩ := h
  have h1 := Int.mul_le_mul_of_nonneg_right ht (show 0 ≤ x by omega)
  have h2 := Int.mul_le_mul_of_nonneg_right ht (show 0 ≤ y by omega)
  exact ⟨⟨by omega, by omega, by omega, by omega⟩, by omega, by omega⟩
theorem plB_down {d x y x' y' : Int} (h : plB d x' y' = true) (h1 : 0 ≤ x) (h2 : x ≤ x') (h3 : 0 ≤ y) (h4 : y ≤ y') : plB d x y = true := by
  obtain ⟨⟨a, b⟩, ⟨c, e⟩, f⟩ := plB_true.1 h
  have := sq_mono h3 h4
  exact plB_true.2 ⟨⟨by omega, by omega⟩, ⟨by omega, by omega⟩, by omega⟩
theorem unS_not (d : Int) : ∀ (ts : List Int) (x y x0 y0 : Int), MonU x y x0 y0 → (∀ t ∈ ts, 1 ≤ t) → plB d x y = false → (unS ts x y x0 y0).filter (fun p => plB d p.1 p.2) = none
  | [], x, y, x0, y0, _, _, h => by simp [unS, h]
  | t :: ts, x, y, x0, y0, hm, ht, h => by
    rw [unS]
    split
    · obtain ⟨h1, h2, h3⟩ := hm.step (ht t (by simp))
      refine unS_not d ts _ _ _ _ h1 (fun u hu => ht u (List.mem_cons_of_mem _ hu)) ?_
      cases hp : plB d (t * x + x0) (t * y + y0)
      · rfl
      · have := plB_down hp (by have := hm.1; have := hm.2.1; omega) h2 (by have := hm.2.2.1; have := hm.2.2.2; omega) h3
        rw [h] at this
        cases this
    · rfl
theorem unI_unS (d : Int) : ∀ (ts : List Int) (x y x0 y0 : Int), MonU x y x0 y0 → (∀ t ∈ ts, 1 ≤ t) → plB d x y = true → unI d ts x y x0 y0 = (unS ts x y x0 y0).filter (fun p => plB d p.1 p.2)
  | [], x, y, x0, y0, _, _, h => by
    show some (x, y) = if plB d x y = true then some (x, y) else none
    rw [if_pos h]
  | t :: ts, x, y, x0, y0, hm, ht, h => by
    obtain ⟨h1, h2, h3⟩ := hm.step (ht t (by simp))
    have ht' := fun u hu => ht u (List.mem_cons_of_mem _ hu)
    rw [unS, unI]
    cases hp : plB d (t * x + x0) (t * y + y0)
    · rw [if_neg (by simp)]
      split
      · exact (unS_not d ts _ _ _ _ h1 ht' hp).symm
      · rfl
    · obtain ⟨⟨a, b⟩, ⟨c, e⟩, _⟩ := plB_true.1 hp
      rw [if_pos rfl, if_pos (smB_true.2 ⟨by omega, by omega⟩)]
      exact unI_unS d ts _ _ _ _ h1 ht' hp
/-- The terms of a root behind the first one, but the last of the period. -/
def asL (d : Int) (n : Nat) : List Int := (List.range n).map fun k => flS (itS (fsS d) k)
theorem asL_pos {d : Int} (hd : NoSq d) (n : Nat) : ∀ t ∈ asL d n, 1 ≤ t ∧ t ≤ 2000 := fun t ht => by
  unfold asL at ht
  obtain ⟨k, _, rfl⟩ := List.mem_map.1 ht
  obtain ⟨r1, r2, _, _⟩ := hd.rt
  have hr := red_it hd (red_first hd) k
  obtain ⟨_, h1, h2, _⟩ := red_fl hr
  obtain ⟨_, _, h3, h4, _⟩ := hr
  refine ⟨h1, ?_⟩
  have := Int.mul_le_mul_of_nonneg_left h4 (show 0 ≤ flS (itS (fsS d) k) by omega)
  omega
theorem cyL_terms {d : Int} (hd : NoSq d) (n : Nat) : (cyL d n).map flS = rtI d :: asL d n := by
  unfold cyL asL
  rw [List.map_cons, (next_root hd).1, List.map_map]
  rfl
theorem asL_length (d : Int) (n : Nat) : (asL d n).length = n := by simp [asL]
/-- How long the period of a root is. -/
noncomputable def pdN (d : Int) : Nat := open Classical in if h : ∃ n, 1 ≤ n ∧ n ≤ 398 ∧ itS (fsS d) n = fsS d ∧ ∀ k, 1 ≤ k → k < n → itS (fsS d) k ≠ fsS d then Classical.choose h else 1
theorem pdN_spec {d : Int} (h1 : 2 ≤ d) (h2 : d ≤ 10000) (h3 : sqB d = false) : 1 ≤ pdN d ∧ pdN d ≤ 398 ∧ itS (fsS d) (pdN d) = fsS d ∧ (∀ k, 1 ≤ k → k < pdN d → itS (fsS d) k ≠ fsS d) ∧ perOf (0, d, 1) = some (cyL d (pdN d), 1) := by
  have hc := root_cycle h1 h2 h3
  have hs := Classical.choose_spec hc
  have e : pdN d = Classical.choose hc := by unfold pdN; rw [dif_pos hc]
  rw [← e] at hs
  exact ⟨hs.1, hs.2.1, hs.2.2.1, hs.2.2.2, per_root ⟨h1, by omega, h3⟩ hs.1 hs.2.1 hs.2.2.1 hs.2.2.2⟩
/-- The least unit, if it is plain. -/
noncomputable def unR (d : Int) : Option (Int × Int) := unI d (asL d (pdN d - 1)) (rtI d) 1 1 0
def pcC (d : Int) : Int := if inR d 2 10000 = true then (if sqB d = true then 6 else 0) else 2
theorem pcC_zero {d : Int} (h : pcC d = 0) : 2 ≤ d ∧ d ≤ 10000 ∧ sqB d = false := by
  unfold pcC at h
  split at h
  · rename_i hi
    obtain ⟨a, b⟩ := inR_true.1 hi
    split at h
    · omega
    · rename_i hs
      exact ⟨a, b, by simpa using hs⟩
  · omega
theorem rt_99 {d : Int} (h1 : 2 ≤ d) (h2 : d ≤ 10000) (h3 : sqB d = false) : 1 ≤ rtI d ∧ rtI d ≤ 99 := by
  obtain ⟨r1, r2, r3, r4⟩ := rt_small h1 (by omega) h3
  refine ⟨r1, ?_⟩
  rcases Int.lt_or_le 99 (rtI d) with g | g
  · have := sq_mono (a := 100) (b := rtI d) (by omega) (by omega)
    omega
  · exact g
theorem plain_root {d : Int} (h1 : 2 ≤ d) (h2 : d ≤ 10000) (h3 : sqB d = false) : plB d (rtI d) 1 = true := by
  obtain ⟨r1, r2⟩ := rt_99 h1 h2 h3
  refine plB_true.2 ⟨⟨by omega, by omega⟩, ⟨by omega, by omega⟩, ?_⟩
  have : (1 : Int) ≤ 1000000000000000000 / d := Int.le_ediv_of_mul_le (by omega) (by omega)
  omega
theorem unR_S {d : Int} (h1 : 2 ≤ d) (h2 : d ≤ 10000) (h3 : sqB d = false) : unR d = (unS (rtI d :: asL d (pdN d - 1)) 1 0 0 1).filter (fun p => plB d p.1 p.2) := by
  obtain ⟨r1, r2⟩ := rt_99 h1 h2 h3
  unfold unR
  rw [unI_unS d _ _ _ _ _ ⟨by omega, r1, by omega, by omega⟩ (fun t ht => (asL_pos ⟨h1, by omega, h3⟩ _ t ht).1) (plain_root h1 h2 h3)]
  rw [unS, if_pos (smB_true.2 ⟨by omega, by omega⟩)]
  simp
end Go.Proofs.YtaajdkgcfoppeaaDoor
