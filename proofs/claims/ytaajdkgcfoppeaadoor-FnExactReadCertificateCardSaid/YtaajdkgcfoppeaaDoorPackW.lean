/- Numbers packed into bytes, and sums of bytes. No condition but those that each theorem names. -/
import Derived.Test.YtaajdkgcfoppeaaDoorExpW
import Derived.Test.YtaajdkgcfoppeaaDoorPutL
import Derived.Test.YtaajdkgcfoppeaaDoorConvW
namespace Go.Proofs.YtaajdkgcfoppeaaDoor
open Go.RowKit Go.Sort

/-- A number's bytes, seven bits in each, the lowest first. -/
def pkL (z : Nat) : List Int := if 128 ≤ z then ((z % 128 + 128 : Nat) : Int) :: pkL (z / 128) else [(z : Int)]
termination_by z
decreasing_by omega
theorem pkL_big {z : Nat} (h : 128 ≤ z) : pkL z = ((z % 128 + 128 : Nat) : Int) :: pkL (z / 128) := by rw [pkL, if_pos h]
theorem pkL_small {z : Nat} (h : ¬ 128 ≤ z) : pkL z = [(z : Int)] := by rw [pkL, if_neg h]
theorem pkL_length : ∀ (k z : Nat), z < 128 ^ (k + 1) → (pkL z).length ≤ k + 1
  | 0, z, h => by rw [pkL_small (by omega)]; simp
  | k + 1, z, h => by
    by_cases hz : 128 ≤ z
    · rw [pkL_big hz]
      have := pkL_length k (z / 128) (by rw [Nat.pow_succ] at h; omega)
      simp; omega
    · rw [pkL_small hz]; simp
/-- A whole number as one that is not negative. -/
def zigN (n : Int) : Nat := if n < 0 then (-2 * n - 1).toNat else (2 * n).toNat
theorem pkL_zig {n : Int} (h1 : -1000000000000000 ≤ n) (h2 : n ≤ 1000000000000000) : (pkL (zigN n)).length ≤ 10 := by
  have hz : zigN n < 128 ^ (9 + 1) := by
    have e : (128 : Nat) ^ (9 + 1) = 1180591620717411303424 := by decide
    rw [e]; unfold zigN; split <;> omega
  exact pkL_length 9 _ hz
theorem info8 : (Tryd.prog.info? 5).map (fun i => (i.zero, i.size, i.bytes)) = some (some (.int .u8 0), 1, 1) := by kernel_rfl
/-- What holds of a list of bytes on its way. -/
def OutB (w : World) (base : Nat) (out : List Int) (v : Value) (wr : World) : Prop :=
  wr.ownsRow base 5 1 v out.length (out.map (Value.int .u8)) ∧ Below w.heap.size w wr ∧ base ≤ wr.heap.size
theorem OutB.push {w : World} {base : Nat} {out : List Int} {v : Value} {wr : World} (h : OutB w base out v wr) (hbase : w.heap.size ≤ base) {t : Int} (v' : Value) (w3 : World) {o : Obj}
    (hown3 : w3.ownsRow base 5 1 v' (out.length + 1) (out.map (Value.int .u8) ++ [.int .u8 t])) (hg : (wr.alloc o).grownBy w3 v.ownBlock) : OutB w base (out ++ [t]) v' w3 := by
  obtain ⟨hown, hbel, hsz⟩ := h
  refine ⟨by simpa using hown3, below_grown (ext_alloc hbel o) (hown.alloc o) hbase hg, ?_⟩
  have := hg.size
  simp at this
  omega
/-- What a call returns that makes a list of bytes. -/
def RetB (w : World) (xs : List Int) (e : Ending) (w' : World) : Prop :=
  ∃ A c, e = .returned (.slice A xs.length c) ∧ Wr (Value.int .u8) w' w.heap.size A xs ∧ Below w.heap.size w w'
/-- The sum of bytes. -/
def ckS : List Int → Int → Int
  | [], s => s
  | x :: xs, s => ckS xs ((257 * s + x) % 65521)
theorem ckS_step {xs : List Int} {k : Nat} {x s : Int} (h : xs[k]? = some x) : ckS (xs.drop k) s = ckS (xs.drop (k + 1)) ((257 * s + x) % 65521) := by
  obtain ⟨h1, h2⟩ := List.getElem?_eq_some_iff.1 h
  rw [List.drop_eq_getElem_cons h1, h2]; rfl
theorem ckS_end {xs : List Int} {k : Nat} {s : Int} (h : ¬ k < xs.length) : ckS (xs.drop k) s = s := by
  rw [List.drop_eq_nil_of_le (by omega)]; rfl
/-- A string's bytes, and a string of bytes. -/
def byI (s : ByteArray) : List Int := s.data.toList.map (fun b => (b.toNat : Int))
def byS (xs : List Int) : ByteArray := ⟨(xs.map (fun n => UInt8.ofNat n.toNat)).toArray⟩
theorem byI_length (s : ByteArray) : (byI s).length = s.size := by simp [byI]
theorem byI_get {s : ByteArray} {k : Nat} (h : k < s.size) : (byI s)[k]? = some ((s[k]).toNat : Int) := by
  have hl : s.data.toList.length = s.size := by cases s; rfl
  unfold byI
  rw [List.getElem?_map, List.getElem?_eq_getElem (by omega)]
  rfl
theorem ofNat_byte {n : Int} (h1 : 0 ≤ n) (h2 : n ≤ 255) : ((UInt8.ofNat n.toNat).toNat : Int) = n := by
  rw [UInt8.toNat_ofNat']
  have : n.toNat % 2 ^ 8 = n.toNat := Nat.mod_eq_of_lt (by omega)
  omega
theorem byI_byS {xs : List Int} (h : ∀ x ∈ xs, 0 ≤ x ∧ x ≤ 255) : byI (byS xs) = xs := by
  unfold byI byS
  simp only [List.map_map]
  conv => rhs; rw [← List.map_id xs]
  apply List.map_congr_left
  intro x hx
  obtain ⟨h1, h2⟩ := h x hx
  simp only [Function.comp, id]
  exact ofNat_byte h1 h2
theorem byS_size (xs : List Int) : (byS xs).size = xs.length := by
  show ((xs.map (fun n => UInt8.ofNat n.toNat)).toArray).size = xs.length
  simp
theorem conv_bytes {A : Option Addr} {c B : Nat} {xs : List Int} {w : World} (hr : Rd (Value.int .u8) w B A xs) (hb : ∀ x ∈ xs, 0 ≤ x ∧ x ≤ 255) (h0 : 0 < xs.length) :
    (convert 49 9 (.slice A xs.length c)).run Tryd.prog w = .ok (.string (byS xs)) w := by
  obtain ⟨b, off, rfl, _, hc⟩ := hr h0
  have hl : (xs.map (fun n => UInt8.ofNat n.toNat)).length = xs.length := List.length_map _
  have h := run_convert_bytes_back (P := Tryd.prog) w 49 9 5 ⟨b, off, none⟩ c (xs.map (fun n => UInt8.ofNat n.toNat)) Tryd.underlying49 Tryd.underlying5 Tryd.underlying9 (fun j hj => by
    have hj' : j < xs.length := by rw [hl] at hj; exact hj
    have ea : (⟨b, off, none⟩ : Addr).add j = ⟨b, off + j, none⟩ := by simp [Addr.add]
    have hx := hc j xs[j] (List.getElem?_eq_getElem hj')
    obtain ⟨h1, h2⟩ := hb xs[j] (List.getElem_mem hj')
    rw [ea, hx]
    simp only [List.getElem_map]
    rw [ofNat_byte h1 h2])
  rw [hl] at h
  exact h
end Go.Proofs.YtaajdkgcfoppeaaDoor
