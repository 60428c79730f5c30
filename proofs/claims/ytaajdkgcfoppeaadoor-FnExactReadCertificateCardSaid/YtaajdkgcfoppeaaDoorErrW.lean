/- Errors of fractions and how they are compared: the walks. No condition but those that each theorem names. -/
import Derived.Test.YtaajdkgcfoppeaaDoorFracW
namespace Go.Proofs.YtaajdkgcfoppeaaDoor
open Go.RowKit Go.Sort

/-- -1, 0 or 1. -/
def cmp3 (a b : Int) : Int := if a < b then -1 else if b < a then 1 else 0
theorem cmp3_neg {a b : Int} : cmp3 a b < 0 ↔ a < b := by unfold cmp3; split <;> (try split) <;> omega
/-- The error of a / b for n / d, times both denominators. -/
def errV (n d a b : Int) : Int := ((n * b - a * d).natAbs : Int)
def big6 (n : Int) : Prop := -1000000 ≤ n ∧ n ≤ 1000000
theorem errV_bd {n d a b : Int} (hn : big6 n) (hd : big6 d) (ha : big6 a) (hb : big6 b) : -1000000000000 ≤ n * b ∧ n * b ≤ 1000000000000 ∧ -1000000000000 ≤ a * d ∧ a * d ≤ 1000000000000 ∧ 0 ≤ errV n d a b ∧ errV n d a b ≤ 2000000000000 := by
  obtain ⟨n1, n2⟩ := hn
  obtain ⟨d1, d2⟩ := hd
  obtain ⟨a1, a2⟩ := ha
  obtain ⟨b1, b2⟩ := hb
  obtain ⟨p1, p2⟩ := mul_bd (x := n) (y := b) (M := 1000000) (N := 1000000) (by omega) n2 (by omega) b2 n1 b1
  obtain ⟨p3, p4⟩ := mul_bd (x := a) (y := d) (M := 1000000) (N := 1000000) (by omega) a2 (by omega) d2 a1 d1
  unfold errV
  omega

theorem cell_three_1 (w : World) (C D E : Array Value) (s t u : TypeId) (j : Nat) : (((w.alloc (.cells C s)).alloc (.cells D t)).alloc (.cells E u)).cell? ⟨w.heap.size, j, none⟩ = C[j]? :=
  (World.cell?_alloc_lt _ _ _ (by simp; omega)).trans (cell_two_fst w C D s t j)
theorem cell_three_2 (w : World) (C D E : Array Value) (s t u : TypeId) (j : Nat) : (((w.alloc (.cells C s)).alloc (.cells D t)).alloc (.cells E u)).cell? ⟨w.heap.size + 1, j, none⟩ = D[j]? :=
  (World.cell?_alloc_lt _ _ _ (by simp)).trans (cell_two_snd w C D s t j)
theorem cell_three_3 (w : World) (C D E : Array Value) (s t u : TypeId) (j : Nat) : (((w.alloc (.cells C s)).alloc (.cells D t)).alloc (.cells E u)).cell? ⟨w.heap.size + 2, j, none⟩ = E[j]? :=
  World.cell?_alloc_at _ _ _ _ (by simp)

end Go.Proofs.YtaajdkgcfoppeaaDoor
