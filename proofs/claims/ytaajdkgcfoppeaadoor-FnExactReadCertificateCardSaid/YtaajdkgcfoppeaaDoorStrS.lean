/- Slices of strings: the statements' own comparing, marking and looking. No condition. -/
import Derived.Test.YtaajdkgcfoppeaaDoorSlices
import Derived.Laws.IdiomStrings
namespace Go.Proofs.YtaajdkgcfoppeaaDoor
open Go.RowKit Go.Sort

theorem toList_inj {a b : ByteArray} (h : a.toList = b.toList) : a = b := by
  rw [ByteArray.toList_eq, ByteArray.toList_eq] at h
  obtain ⟨⟨x⟩⟩ := a
  obtain ⟨⟨y⟩⟩ := b
  simp at h
  rw [h]

def dg8 (k : Nat) : UInt8 := UInt8.ofNat (48 + k % 10)
/-- The decimal digits of k, with fuel; a mark. -/
def dgs : Nat → Nat → List UInt8
  | 0, _ => []
  | f + 1, k => if k = 0 then [] else dgs f (k / 10) ++ [dg8 k]
def mkS (l : List UInt8) : ByteArray := ⟨l.toArray⟩
theorem mkS_append (a b : List UInt8) : mkS (a ++ b) = mkS a ++ mkS b := by
  apply ByteArray.ext
  simp [mkS]
theorem mkS_nil : mkS [] = ByteArray.empty := rfl
def mtext (k : Int) : ByteArray := mkS (109 :: dgs 10 k.toNat)

theorem conv_one (W : World) (n : Nat) (h : n < 256) : (convert 49 9 (.slice (some ⟨W.heap.size, 0, none⟩) 1 1)).run Tryd.prog (W.alloc (.cells #[.int .u8 (n : Int)] 5)) = .ok (.string (mkS [UInt8.ofNat n])) (W.alloc (.cells #[.int .u8 (n : Int)] 5)) :=
  run_convert_bytes_back (P := Tryd.prog) _ 49 9 5 ⟨W.heap.size, 0, none⟩ 1 [UInt8.ofNat n] Tryd.underlying49 Tryd.underlying5 Tryd.underlying9 (fun j hj => by
    obtain rfl : j = 0 := by simpa using hj
    have e : (⟨W.heap.size, 0, none⟩ : Addr).add 0 = ⟨W.heap.size, 0, none⟩ := by simp [Addr.add]
    rw [e, cell_one]
    simp only [List.getElem_cons_zero, UInt8.toNat_ofNat']
    have : n % 2 ^ 8 = n := Nat.mod_eq_of_lt (by omega)
    rw [this]; rfl)

end Go.Proofs.YtaajdkgcfoppeaaDoor
