/- How an argument of a statement is opened: slices of integers. No condition. -/
import Derived.Test.YtbcikkaoohihhaaGreatDoorMrA
import Derived.Test.YtbcikkaoohihhaaGreatDoorJoin
import Derived.ProofKit
import Derived.OpenShut
import Derived.ShutString
import Derived.ChangeOld
import Derived.Lib.SmallJoins
namespace Go.Proofs.YtbcikkaoohihhaaGreatDoor
open Go.ChangeShapes Go.WideShapes Go.ChangeAt Go.RowKit

/-- What a walk is told of a slice of integers that came in: it is nil; or it leads to a row of 'cap' cells, the numbers 'zs' (the first 'len' are its elements). -/
def IsRow (k : IntKind) (w : World) (a : Option Addr) (len cap : Nat) (zs : List Int) : Prop :=
  (a = none ∧ len = 0 ∧ cap = 0 ∧ zs = []) ∨
  ∃ x, a = some x ∧ len ≤ cap ∧ cap ≤ maxLen ∧ zs.length = cap ∧ (∀ i, i < zs.length → w.cell? (x.add i) = some (.int k (zs.getD i 0))) ∧ ∀ n ∈ zs, (Lit.int k n).wf = true

section
variable {H : Type} {enc : TypeId × Value → H} {P : Program} {w : World}
theorem isRow_of {t e : TypeId} {k : IntKind} {fuel : Nat} {cs : List Value} {x : DataW H × List MemPlace} (ht : P.underlying t = some (.slice e)) (he : P.underlying e = some (.int k)) (hc : P.cellsOf e = 1)
    (hf : DataW.trod enc P w 0 (fun _ => true) true fuel t cs = some x) : ∃ A l c zs, cs = [Value.slice A l c] ∧ IsRow k w A l c zs := by
  rcases open_ints ht he hc hf with ⟨hcs, _⟩ | ⟨x, l, c, zs, hcs, _, hl, hm, hz, _, hcell, hwz⟩
  · exact ⟨none, 0, 0, [], hcs, .inl ⟨rfl, rfl, rfl, rfl⟩⟩
  · exact ⟨some x, l, c, zs, hcs, .inr ⟨_, rfl, hl, hm, by simpa using hz, hcell, hwz⟩⟩

theorem isRow_arg {t e : TypeId} {k : IntKind} {A : Option Addr} {l c : Nat} {d : DataW H} {ps : List MemPlace} (ht : P.underlying t = some (.slice e)) (he : P.underlying e = some (.int k)) (hc : P.cellsOf e = 1)
    (h : DataW.Trod enc P w 0 (fun _ => true) true t (.slice A l c) d ps) : ∃ zs, IsRow k w A l c zs := by
  obtain ⟨fuel, hf⟩ := h
  obtain ⟨A', l', c', zs, hcs, hr⟩ := isRow_of ht he hc hf
  simp [Value.cells] at hcs
  obtain ⟨rfl, rfl, rfl⟩ := hcs
  exact ⟨zs, hr⟩
end

theorem cell_plain {w : World} {x : Addr} {v : Value} (h : w.cell? x = some v) : ∃ b off, x = ⟨b, off, none⟩ ∧ b < w.heap.size := by
  obtain ⟨b, off, spot⟩ := x
  have hlt := block_lt_of_cell h
  cases spot with
  | none => exact ⟨b, off, rfl, hlt⟩
  | some s =>
    exfalso
    simp only [World.cell?] at h
    split at h
    · simp at h
    · cases h

theorem IsRow.rd {w : World} {A : Option Addr} {l c : Nat} {zs : List Int} (h : IsRow .i64 w A l c zs) : (zs.take l).length = l ∧ l ≤ maxLen ∧ Rd (Value.int .i64) w w.heap.size A (zs.take l) ∧ ∀ n ∈ zs.take l, (Lit.int .i64 n).wf = true := by
  rcases h with ⟨rfl, rfl, rfl, rfl⟩ | ⟨x, rfl, hl, hm, hz, hc, hw⟩
  · exact ⟨rfl, Nat.zero_le _, fun h => absurd h (by simp), fun n hn => absurd hn (by simp)⟩
  · have hlen : (zs.take l).length = l := by rw [List.length_take]; omega
    refine ⟨hlen, by omega, fun hp => ?_, fun n hn => hw n (List.mem_of_mem_take hn)⟩
    obtain ⟨b, off, e, hb⟩ := cell_plain (hc 0 (by omega))
    have ex : x = ⟨b, off, none⟩ := by
      have : x.add 0 = x := by simp [Addr.add]
      rw [← this]; exact e
    subst ex
    refine ⟨b, off, rfl, hb, fun j y hy => ?_⟩
    have hj : j < zs.length := by
      have := (List.getElem?_eq_some_iff.1 hy).1
      omega
    have hcj := hc j hj
    have ea : (⟨b, off, none⟩ : Addr).add j = ⟨b, off + j, none⟩ := by
      unfold Addr.add
      by_cases hj : j = 0 <;> simp [hj]
    rw [ea] at hcj
    rw [hcj]
    have hy' : zs[j]? = some y := by
      rw [List.getElem?_take] at hy
      split at hy
      · exact hy
      · cases hy
    simp [List.getD, hy']
end Go.Proofs.YtbcikkaoohihhaaGreatDoor
