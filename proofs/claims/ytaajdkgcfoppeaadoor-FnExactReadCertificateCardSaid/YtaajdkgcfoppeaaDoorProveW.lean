/- ProveGcd, ProveLinear: the walks. No condition but those that each theorem names. -/
import Derived.Test.YtaajdkgcfoppeaaDoorCertW
import Derived.Test.YtaajdkgcfoppeaaDoorFracW
namespace Go.Proofs.YtaajdkgcfoppeaaDoor
open Go.RowKit Go.Sort

/-- A number that may stand in a certificate. -/
def modB (n : Int) : Bool := inR n (-1000000000) 1000000000
theorem modB_true {n : Int} : modB n = true ↔ -1000000000 ≤ n ∧ n ≤ 1000000000 := inR_true
theorem isModerate_any (n : Int) (w : World) : Calls Tryd.prog 37 #[.int .i64 n] w fun e w' => e = .returned (.bool (modB n)) ∧ w = w' := by
  go_enter Tryd.func37, Tryd.ntmps37
  go_wp2_with (go_at_call 34; refine (within_any _ _ _ _).mono ?_; rintro e w' ⟨rfl, rfl⟩)
  go_ret
  exact ⟨rfl, rfl⟩
theorem l26Num_any (n : Int) (w : World) : Calls Tryd.prog 23 #[.int .i64 n] w fun e w' => e = .returned (.bool (modB n)) ∧ w = w' := by
  go_enter Tryd.func23, Tryd.ntmps23
  go_wp2_with (go_at_call 28; refine (l00In_any _ _ _ _).mono ?_; rintro e w' ⟨rfl, rfl⟩)
  go_ret
  exact ⟨rfl, rfl⟩

theorem tmod_bd1 {c g : Int} (hg : 0 < g) (h1 : -1000000000 ≤ c) (h2 : c ≤ 1000000000) : -1000000000 ≤ c.tmod g ∧ c.tmod g ≤ 1000000000 := by
  rcases Int.lt_or_le c 0 with h | h
  · have e1 : c.tmod g = -((-c) % g) := by
      rw [← Int.tmod_eq_emod_of_nonneg (by omega), Int.neg_tmod]; omega
    have a1 := Int.emod_nonneg (-c) (b := g) (by omega)
    have a2 : (-c) % g ≤ -c := by
      have h3 := Int.mul_ediv_add_emod (-c) g
      have h4 := Int.mul_nonneg (show 0 ≤ g by omega) (Int.ediv_nonneg (show 0 ≤ -c by omega) (show 0 ≤ g by omega))
      omega
    omega
  · rw [Int.tmod_eq_emod_of_nonneg h]
    have a1 := Int.emod_nonneg c (b := g) (by omega)
    have a2 : c % g ≤ c := by
      have h3 := Int.mul_ediv_add_emod c g
      have h4 := Int.mul_nonneg (show 0 ≤ g by omega) (Int.ediv_nonneg (show 0 ≤ c by omega) (show 0 ≤ g by omega))
      omega
    omega
/-- ProveLinear: the code and the numbers. -/
def linC (a b c : Int) : Int := if (modB a && modB b && modB c) = true then (if Int.gcd a b = 0 ∨ c % (Int.gcd a b : Int) = 0 then 6 else 0) else 2
def linK (a b c : Int) : Int := if linC a b c = 0 then 3 else 0
def linX (a b c : Int) : List Int := if linC a b c = 0 then [a, b, c, Int.gcd a b] else []

theorem cert_nil (w : World) : Wr (Value.int .i64) w w.heap.size none ([] : List Int) := fun h => absurd h (by simp)


theorem set_alloc {w : World} {b : Nat} {x y : Value} (hb : b < w.heap.size) (h0 : w.cell? ⟨b, 0, none⟩ = some x) (h1 : w.cell? ⟨b, 1, none⟩ = some y) :
    (∀ u v o, (((w.setCell ⟨b, 0, none⟩ u).setCell ⟨b, 1, none⟩ v).alloc o).cell? ⟨b, 0, none⟩ = some u) ∧ (∀ u v o, (((w.setCell ⟨b, 0, none⟩ u).setCell ⟨b, 1, none⟩ v).alloc o).cell? ⟨b, 1, none⟩ = some v) := by
  obtain ⟨s0, s1⟩ := set_two h0 h1
  refine ⟨fun u v o => ?_, fun u v o => ?_⟩
  · refine (World.cell?_alloc_lt _ _ _ (by simpa using hb)).trans ?_
    exact (World.cell?_setCell_other _ ⟨b, 1, none⟩ ⟨b, 0, none⟩ _ (by simp)).trans (s0 u)
  · exact (World.cell?_alloc_lt _ _ _ (by simpa using hb)).trans (s1 u v)

/-- A new slice of integers. -/
theorem Wr.lit' {xs : List Int} {C : Array Value} {E : TypeId} {g : Nat} (w : World) (hg : g = w.heap.size) (h : C.toList = xs.map (Value.int .i64)) : Wr (Value.int .i64) (w.alloc (.cells C E)) g (some ⟨g, 0, none⟩) xs := by
  subst hg
  exact fun _ => ⟨w.heap.size, 0, rfl, Nat.le_refl _, by simp, fun j x hx => by
    rw [Nat.zero_add, cell_one, ← Array.getElem?_toList, h, List.getElem?_map, hx]; rfl, fun j => World.frozen?_alloc_at _ _ _ _ rfl⟩

end Go.Proofs.YtaajdkgcfoppeaaDoor
