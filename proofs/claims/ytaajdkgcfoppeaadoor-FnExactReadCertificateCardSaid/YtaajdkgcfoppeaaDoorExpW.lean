/- The terms of a fraction: both walks. No condition but those that each theorem names. -/
import Derived.Test.YtaajdkgcfoppeaaDoorDriftW
import Derived.Test.YtaajdkgcfoppeaaDoorSlices
namespace Go.Proofs.YtaajdkgcfoppeaaDoor
open Go.RowKit Go.Sort


/-- The short terms of n / d, k at most. -/
def expT : Nat → Int → Int → List Int
  | 0, _, _ => []
  | k + 1, n, d => if d = 0 then [] else n / d :: expT k d (n % d)
def termsOf (n d : Int) : List Int := expT d.toNat n d
theorem expT_zero (k : Nat) (n : Int) : expT k n 0 = [] := by cases k <;> simp [expT]
theorem expT_step {k : Nat} {n d : Int} (h : 1 ≤ d) (hk : d ≤ k) : ∃ j : Nat, k = j + 1 ∧ n % d ≤ j ∧ 0 ≤ n % d ∧ n % d < d ∧ expT k n d = n / d :: expT j d (n % d) := by
  have h1 := Int.emod_nonneg n (b := d) (by omega)
  have h2 := Int.emod_lt_of_pos n (show 0 < d by omega)
  refine ⟨k - 1, by omega, by omega, h1, h2, ?_⟩
  obtain ⟨j, rfl⟩ : ∃ j, k = j + 1 := ⟨k - 1, by omega⟩
  rw [expT, if_neg (by omega)]; rfl
theorem expT_length : ∀ (k : Nat) (n d : Int), (expT k n d).length ≤ k
  | 0, _, _ => by simp [expT]
  | k + 1, n, d => by
    unfold expT
    split
    · simp
    · have := expT_length k d (n % d)
      simp; omega
theorem ediv_rng {n d : Int} (d1 : 1 ≤ d) (n1 : -1000000000 ≤ n) (n2 : n ≤ 1000000000) : -1000000000 ≤ n / d ∧ n / d ≤ 1000000000 := ediv_bd (by omega) n1 n2
theorem expT_bd : ∀ (k : Nat) (n d : Int), -1000000000 ≤ n → n ≤ 1000000000 → 0 ≤ d → d ≤ 1000000000 → ∀ t ∈ expT k n d, -1000000000 ≤ t ∧ t ≤ 1000000000
  | 0, _, _, _, _, _, _, t, ht => by simp [expT] at ht
  | k + 1, n, d, n1, n2, d1, d2, t, ht => by
    unfold expT at ht
    split at ht
    · simp at ht
    · rename_i h0
      rcases List.mem_cons.1 ht with rfl | ht
      · exact ediv_rng (by omega) n1 n2
      · have h1 := Int.emod_nonneg n (b := d) (by omega)
        have h2 := Int.emod_lt_of_pos n (show 0 < d by omega)
        exact expT_bd k d (n % d) (by omega) d2 h1 (by omega) t ht

/-- What a call returns that makes a slice of integers. -/
def RetList (w : World) (xs : List Int) (e : Ending) (w' : World) : Prop :=
  ∃ A c, e = .returned (.slice A xs.length c) ∧ Wr (Value.int .i64) w' w.heap.size A xs ∧ Below w.heap.size w w'

/-- What holds of a list on its way. -/
def OutI (w : World) (base : Nat) (out : List Int) (v : Value) (wr : World) : Prop :=
  wr.ownsRow base 2 1 v out.length (out.map (Value.int .i64)) ∧ Below w.heap.size w wr ∧ base ≤ wr.heap.size
theorem OutI.push {w : World} {base : Nat} {out : List Int} {v : Value} {wr : World} (h : OutI w base out v wr) (hbase : w.heap.size ≤ base) {t : Int} (v' : Value) (w3 : World) {o : Obj}
    (hown3 : w3.ownsRow base 2 1 v' (out.length + 1) (out.map (Value.int .i64) ++ [.int .i64 t])) (hg : (wr.alloc o).grownBy w3 v.ownBlock) : OutI w base (out ++ [t]) v' w3 := by
  obtain ⟨hown, hbel, hsz⟩ := h
  refine ⟨by simpa using hown3, below_grown (ext_alloc hbel o) (hown.alloc o) hbase hg, ?_⟩
  have := hg.size
  simp at this
  omega

theorem outI_start (w : World) (o : Obj) : OutI w (w.heap.size + 1) [] (.slice (some ⟨w.heap.size + 1, 0, none⟩) 0 0) ((w.alloc o).alloc (.cells #[] 2)) := by
  refine ⟨?_, ext_alloc (ext1 _ _) _, by simp⟩
  have h := World.ownsRow_lit (base := w.heap.size + 1) (e := 2) (size := 1) (w.alloc o) #[] 0 (by simp) (by simp) rfl
  simpa using h
end Go.Proofs.YtaajdkgcfoppeaaDoor
