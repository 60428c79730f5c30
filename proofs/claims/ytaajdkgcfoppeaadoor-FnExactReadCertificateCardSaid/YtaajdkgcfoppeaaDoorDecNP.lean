/- Numbers in decimal: the plain law. No condition but those that each theorem names. -/
import Derived.Test.YtaajdkgcfoppeaaDoorPackW
import Derived.Lib.ItoaNum
import Derived.Lib.ItoaLen
import Derived.Lib.ItoaMem
namespace Go.Proofs.YtaajdkgcfoppeaaDoor
open Go.RowKit Go.Sort

/-- The digits of a number, as bytes; none for 0. -/
def dg0 (u : Nat) : List Int := if u = 0 then [] else dg0 (u / 10) ++ [48 + ((u % 10 : Nat) : Int)]
termination_by u
decreasing_by omega
theorem dg0_zero : dg0 0 = [] := by rw [dg0, if_pos rfl]
theorem dg0_pos {u : Nat} (h : u ≠ 0) : dg0 u = dg0 (u / 10) ++ [48 + ((u % 10 : Nat) : Int)] := by rw [dg0, if_neg h]
/-- A number's decimal text. -/
def decB (n : Int) : ByteArray := ⟨(Lib.itoa n).toArray⟩
theorem dec_map : ∀ (k u : Nat), u ≤ k → 0 < u → (dg0 u).map (fun n => UInt8.ofNat n.toNat) = Lib.decDigits u
  | 0, u, hk, h0 => by omega
  | k + 1, u, hk, h0 => by
    rw [dg0_pos (by omega), List.map_append]
    by_cases h : u < 10
    · rw [Lib.decDigits, dif_pos h, show u / 10 = 0 by omega, dg0_zero]
      simp only [List.map_nil, List.nil_append, List.map_cons]
      rw [show u % 10 = u by omega]
      rfl
    · rw [Lib.decDigits, dif_neg h, dec_map k (u / 10) (by omega) (by omega)]
      rfl
theorem byS_dg0 {u : Nat} (h : 0 < u) : byS (dg0 u) = ⟨(Lib.decDigits u).toArray⟩ := by
  unfold byS
  rw [dec_map u u (Nat.le_refl _) h]
theorem dg0_byte : ∀ (k u : Nat), u ≤ k → ∀ b ∈ dg0 u, 0 ≤ b ∧ b ≤ 255
  | 0, u, hk, b, hb => by
    obtain rfl : u = 0 := by omega
    rw [dg0_zero] at hb
    simp at hb
  | k + 1, u, hk, b, hb => by
    by_cases h : u = 0
    · subst h
      rw [dg0_zero] at hb
      simp at hb
    · rw [dg0_pos h] at hb
      rcases List.mem_append.1 hb with hb | hb
      · exact dg0_byte k (u / 10) (by omega) b hb
      · simp only [List.mem_cons, List.not_mem_nil, or_false] at hb
        omega
theorem dg0_len : ∀ (k u : Nat), u < 10 ^ k → (dg0 u).length ≤ k
  | 0, u, h => by
    obtain rfl : u = 0 := by simp at h; omega
    rw [dg0_zero]; simp
  | k + 1, u, h => by
    by_cases h0 : u = 0
    · subst h0; rw [dg0_zero]; simp
    · rw [dg0_pos h0, List.length_append]
      have := dg0_len k (u / 10) (by rw [Nat.pow_succ] at h; omega)
      simp; omega
theorem dg0_ne {u : Nat} (h : 0 < u) : 0 < (dg0 u).length := by rw [dg0_pos (by omega)]; simp
theorem decB_zero : decB 0 = ⟨#[48]⟩ := by
  unfold decB Lib.itoa
  rw [if_neg (by omega)]
  rw [Lib.decDigits, dif_pos (by decide)]
  rfl
theorem decB_pos {n : Int} (h : 0 < n) : decB n = byS (dg0 n.natAbs) := by
  rw [byS_dg0 (by omega)]
  unfold decB Lib.itoa
  rw [if_neg (by omega), show n.toNat = n.natAbs by omega]
theorem decB_neg {n : Int} (h : n < 0) : decB n = ⟨#[45]⟩ ++ byS (dg0 n.natAbs) := by
  rw [byS_dg0 (by omega)]
  unfold decB Lib.itoa
  rw [if_pos h]
  apply ByteArray.ext
  simp [ByteArray.data_append]
theorem decB_size {n : Int} (h0 : -9223372036854775808 ≤ n) (h1 : n ≤ 9223372036854775807) : (decB n).size ≤ 21 := by
  have := Lib.itoa_length_le n h0 h1
  show (Lib.itoa n).toArray.size ≤ 21
  simpa using this
end Go.Proofs.YtaajdkgcfoppeaaDoor
