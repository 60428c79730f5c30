/- A fraction of a sum and a divisor: the walk of MakeFraction. No condition but those that each theorem names. -/
import Derived.Test.YtdjnblkgeaphmaaShareW
namespace Go.Proofs.Ytdjnblkgeaphmaa
open Go.RowKit Go.Sort

set_option maxRecDepth 100000 in
theorem iMake_good (n d : Int) (w : World) (d1 : 1 ≤ d) (d2 : d ≤ 1000000000) (n1 : -1000000000 ≤ n) (n2 : n ≤ 1000000000) :
    Calls Try.prog 45 #[.int .i64 n, .int .i64 d] w fun e w' => e = .returned (.tuple #[fracV (qN n d) (qD n d), .int .i64 0]) ∧ Below w.heap.size w w' := by
  have hi1 : inR n (-1000000000000000000) 1000000000000000000 = true := inR_true.2 ⟨by omega, by omega⟩
  have hi2 : inR d (-1000000000000000000) 1000000000000000000 = true := inR_true.2 ⟨by omega, by omega⟩
  have d0 : (d == 0) = false := by simp; omega
  have hfull : fullN n d = qN n d ∧ fullD n d = qD n d ∧ fullC n d = 0 := by
    have := fracOk_q (n := n) (d := d) d1 d2 n1 n2
    simp [fullN, fullD, fullC, this]
  have HP : Hid (∀ W, Calls Try.prog 121 #[.int .i64 n, .int .i64 d] W fun e w' => e = .returned (.tuple #[fracV (qN n d) (qD n d), .int .i64 0]) ∧ Below W.heap.size W w') := fun W => by
    have h := plainOf_any n d W (by omega) (by omega) (by omega) (by omega) (by omega)
    rwa [hfull.1, hfull.2.1, hfull.2.2] at h
  clear hfull
  go_enter Try.func45, Try.ntmps45
  go_wp2_with (go_at_call 110; (with_reducible refine (within_any _ _ _ _).mono ?_); rintro e w' ⟨rfl, rfl⟩; first | rw [hi1] | rw [hi2])
  (with_reducible refine (HP.out _).mono ?_)
  rintro e w1 ⟨rfl, hb⟩
  have m0 : w1.cell? ⟨w.heap.size, 0, none⟩ = some (.int .i64 0) := (hb.cell (p := ⟨w.heap.size, 0, none⟩) (by simp)).trans (cell_one _ _ _ _)
  have m1 : w1.cell? ⟨w.heap.size, 1, none⟩ = some (.int .i64 0) := (hb.cell (p := ⟨w.heap.size, 1, none⟩) (by simp)).trans (cell_one _ _ _ _)
  have f0 : w1.frozen? ⟨w.heap.size, 0, none⟩ = false := (hb.frozen (p := ⟨w.heap.size, 0, none⟩) (by simp)).trans (World.frozen?_alloc_at _ _ _ _ rfl)
  have f1 : w1.frozen? ⟨w.heap.size, 1, none⟩ = false := (hb.frozen (p := ⟨w.heap.size, 1, none⟩) (by simp)).trans (World.frozen?_alloc_at _ _ _ _ rfl)
  obtain ⟨s0, s1⟩ := set_two m0 m1
  have HB := Lib.hid (ext_trans (ext1 w _) hb)
  clear hb HP hi1 hi2 d0
  go_wp2
  exact bodyPost_ret (v := .tuple #[fracV (qN n d) (qD n d), .int .i64 0]) (by simp [results, Try.results45, go_sem, s0, s1]; done) rfl ⟨rfl, ext_set (ext_set HB.out (Nat.le_refl _) _) (Nat.le_refl _) _⟩
end Go.Proofs.Ytdjnblkgeaphmaa
