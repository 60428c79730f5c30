/- Surds of roots come again: numbers up to 10000, by the kernel's own reckoning. No condition. -/
import Derived.Test.YtaajdkgcfoppeaaDoorBase
namespace Go.Proofs.YtaajdkgcfoppeaaDoor

/-- Along the surds of a root: whether the first comes again (fuel, then P - 1, Q - 1). -/
noncomputable def cyc (r d e : Nat) : Nat → Nat → Nat → Bool :=
  Nat.rec (fun _ _ => false) (fun _ ih p q =>
    Nat.rec false (fun p' _ => Nat.rec false (fun q' _ => Bool.rec (ih p' q') true (Nat.beq (p' + 1) r && Nat.beq (q' + 1) e)) ((d - (p' + 1) * (p' + 1)) / (q + 1))) ((p + 1 + r) / (q + 1) * (q + 1) - (p + 1)))
noncomputable def cycJ (r j : Nat) : Bool := Nat.rec false (fun d' _ => cyc r (d' + 1) j 398 (r - 1) (j - 1)) (r * r + j)
noncomputable def allJ (r : Nat) : Nat → Bool := Nat.rec true (fun j ih => Bool.rec false ih (cycJ r (j + 1)))
noncomputable def allR (a : Nat) : Nat → Bool := Nat.rec true (fun i ih => Bool.rec false ih (allJ (a + i) (2 * (a + i))))
theorem cy1 : allR 1 30 = true := by decide +kernel
theorem cy2 : allR 31 20 = true := by decide +kernel
theorem cy3 : allR 51 14 = true := by decide +kernel
theorem cy4 : allR 65 11 = true := by decide +kernel
theorem cy5 : allR 76 8 = true := by decide +kernel
theorem cy6 : allR 84 6 = true := by decide +kernel
theorem cy7 : allR 90 5 = true := by decide +kernel
theorem cy8 : allR 95 5 = true := by decide +kernel
theorem boolrec {c b : Bool} (h : (Bool.rec false b c : Bool) = true) : c = true ∧ b = true := by cases c <;> simp_all
theorem allR_at (a : Nat) : ∀ (n i : Nat), allR a n = true → i < n → allJ (a + i) (2 * (a + i)) = true
  | n + 1, i, h, hi => by
    obtain ⟨h1, h2⟩ := boolrec (show (Bool.rec false (allR a n) (allJ (a + n) (2 * (a + n))) : Bool) = true from h)
    by_cases e : i = n
    · subst e; exact h1
    · exact allR_at a n i h2 (by omega)
theorem allJ_at (r : Nat) : ∀ (n j : Nat), allJ r n = true → 1 ≤ j → j ≤ n → cycJ r j = true
  | 0, j, _, h1, h2 => by omega
  | n + 1, j, h, h1, h2 => by
    obtain ⟨g1, g2⟩ := boolrec (show (Bool.rec false (allJ r n) (cycJ r (n + 1)) : Bool) = true from h)
    by_cases e : j = n + 1
    · subst e; exact g1
    · exact allJ_at r n j g2 h1 (by omega)
theorem cycJ_all {r j : Nat} (h1 : 1 ≤ r) (h2 : r ≤ 99) (h3 : 1 ≤ j) (h4 : j ≤ 2 * r) : cycJ r j = true := by
  refine allJ_at r (2 * r) j ?_ h3 h4
  by_cases c1 : r ≤ 30
  · have := allR_at 1 30 (r - 1) cy1 (by omega); rwa [show 1 + (r - 1) = r by omega] at this
  by_cases c2 : r ≤ 50
  · have := allR_at 31 20 (r - 31) cy2 (by omega); rwa [show 31 + (r - 31) = r by omega] at this
  by_cases c3 : r ≤ 64
  · have := allR_at 51 14 (r - 51) cy3 (by omega); rwa [show 51 + (r - 51) = r by omega] at this
  by_cases c4 : r ≤ 75
  · have := allR_at 65 11 (r - 65) cy4 (by omega); rwa [show 65 + (r - 65) = r by omega] at this
  by_cases c5 : r ≤ 83
  · have := allR_at 76 8 (r - 76) cy5 (by omega); rwa [show 76 + (r - 76) = r by omega] at this
  by_cases c6 : r ≤ 89
  · have := allR_at 84 6 (r - 84) cy6 (by omega); rwa [show 84 + (r - 84) = r by omega] at this
  by_cases c7 : r ≤ 94
  · have := allR_at 90 5 (r - 90) cy7 (by omega); rwa [show 90 + (r - 90) = r by omega] at this
  · have := allR_at 95 5 (r - 95) cy8 (by omega); rwa [show 95 + (r - 95) = r by omega] at this
end Go.Proofs.YtaajdkgcfoppeaaDoor
