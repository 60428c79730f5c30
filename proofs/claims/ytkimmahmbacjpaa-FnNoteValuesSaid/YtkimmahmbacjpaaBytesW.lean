/- A code of bytes that came in. No condition. -/
import Derived.Test.YtkimmahmbacjpaaFrame
import Derived.Test.YtkimmahmbacjpaaMgSrc
namespace Go.Proofs.Ytkimmahmbacjpaa
open Go.RowKit Go.Sort Go.ChangeShapes Go.WideShapes Go.ChangeAt

theorem IsRow.rdU {w : World} {A : Option Addr} {l c : Nat} {zs : List Int} (h : IsRow .u8 w A l c zs) : (zs.take l).length = l ∧ Rd (Value.int .u8) w w.heap.size A (zs.take l) ∧ ∀ n ∈ zs.take l, (Lit.int .u8 n).wf = true := by
  rcases h with ⟨rfl, rfl, rfl, rfl⟩ | ⟨x, rfl, hl, hm, hz, hc, hw⟩
  · exact ⟨rfl, fun h => absurd h (by simp), fun n hn => absurd hn (by simp)⟩
  · have hlen : (zs.take l).length = l := by rw [List.length_take]; omega
    refine ⟨hlen, fun hp => ?_, fun n hn => hw n (List.mem_of_mem_take hn)⟩
    obtain ⟨b, off, e, hb⟩ := cell_plain (hc 0 (by omega))
    have ex : x = ⟨b, off, none⟩ := by
      have : x.add 0 = x := by simp [Addr.add]
      rw [← this]; exact e
    subst ex
    refine ⟨b, off, rfl, hb, fun j y hy => ?_⟩
    have hj : j < zs.length := by
      have := (List.getElem?_eq_some_iff.1 hy).1
      omega
    have hcj := hc j hj
    have ea : (⟨b, off, none⟩ : Addr).add j = ⟨b, off + j, none⟩ := by
      unfold Addr.add
      by_cases hj : j = 0 <;> simp [hj]
    rw [ea] at hcj
    rw [hcj]
    have hy' : zs[j]? = some y := by
      rw [List.getElem?_take] at hy
      split at hy
      · exact hy
      · cases hy
    simp [List.getD, hy']
theorem wf_u8 {n : Int} (h : (Lit.int .u8 n).wf = true) : 0 ≤ n ∧ n ≤ 255 := by
  have h2 : (decide (IntKind.min .u8 ≤ n) && decide (n ≤ IntKind.max .u8)) = true := h
  rw [Bool.and_eq_true, decide_eq_true_iff, decide_eq_true_iff, show IntKind.min .u8 = 0 by decide, show IntKind.max .u8 = 255 by decide] at h2
  exact h2
theorem IsRow.bytes {w : World} {A : Option Addr} {l c : Nat} {zs : List Int} (h : IsRow .u8 w A l c zs) (hl : l ≤ 1000000) : Bytes w A l := by
  obtain ⟨h1, h2, h3⟩ := h.rdU
  exact ⟨_, h2, h1, hl, fun x hx => wf_u8 (h3 x hx)⟩
end Go.Proofs.Ytkimmahmbacjpaa
