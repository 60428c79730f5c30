/- Slices of strings: the statements' own comparing, marking and looking. No condition. -/
import Derived.Test.YtbcikkaoohihhaaGreatDoorMrA
import Derived.Laws.IdiomStrings
namespace Go.Proofs.YtbcikkaoohihhaaGreatDoor
open Go.RowKit Go.Sort

theorem toList_inj {a b : ByteArray} (h : a.toList = b.toList) : a = b := by
  rw [ByteArray.toList_eq, ByteArray.toList_eq] at h
  obtain ⟨⟨x⟩⟩ := a
  obtain ⟨⟨y⟩⟩ := b
  simp at h
  rw [h]

def dg8 (k : Nat) : UInt8 := UInt8.ofNat (48 + k % 10)
/-- The decimal digits of k, with fuel; a mark. -/
def dgs : Nat → Nat → List UInt8
  | 0, _ => []
  | f + 1, k => if k = 0 then [] else dgs f (k / 10) ++ [dg8 k]
def mkS (l : List UInt8) : ByteArray := ⟨l.toArray⟩
theorem mkS_append (a b : List UInt8) : mkS (a ++ b) = mkS a ++ mkS b := by
  apply ByteArray.ext
  simp [mkS]
theorem mkS_nil : mkS [] = ByteArray.empty := rfl
def mtext (k : Int) : ByteArray := mkS (109 :: dgs 10 k.toNat)

theorem conv_one (W : World) (n : Nat) (h : n < 256) : (convert 28 9 (.slice (some ⟨W.heap.size, 0, none⟩) 1 1)).run Tryz.prog (W.alloc (.cells #[.int .u8 (n : Int)] 5)) = .ok (.string (mkS [UInt8.ofNat n])) (W.alloc (.cells #[.int .u8 (n : Int)] 5)) :=
  run_convert_bytes_back (P := Tryz.prog) _ 28 9 5 ⟨W.heap.size, 0, none⟩ 1 [UInt8.ofNat n] Tryz.underlying28 Tryz.underlying5 Tryz.underlying9 (fun j hj => by
    obtain rfl : j = 0 := by simpa using hj
    have e : (⟨W.heap.size, 0, none⟩ : Addr).add 0 = ⟨W.heap.size, 0, none⟩ := by simp [Addr.add]
    rw [e, cell_one]
    simp only [List.getElem_cons_zero, UInt8.toNat_ofNat']
    have : n % 2 ^ 8 = n := Nat.mod_eq_of_lt (by omega)
    rw [this]; rfl)

set_option maxHeartbeats 400000 in
theorem markText_any (k : Int) (w : World) (h : 1 ≤ k) (h' : k ≤ 1000000000) :
    Calls Tryz.prog 40 #[.int .i64 k] w fun e w' => e = .returned (.string (mtext k)) ∧ Below w.heap.size w w' := by
  obtain ⟨K, hK⟩ := Int.eq_ofNat_of_zero_le (a := k) (by omega)
  have HK := Lib.hid hK
  have hk0 : decide (k ≤ 0) = false := decide_eq_false (by omega)
  have hKb : K ≤ 1000000000 := by omega
  clear hK
  go_enter Tryz.func40, Tryz.ntmps40
  go_wp2_with fail
  go_loopw [3, 0] (fun s t wr => ∃ (b : ByteArray) (k f : Nat), s = .string b ∧ t = .int .i64 k ∧ k ≤ 1000000000 ∧ Hid (k < 10 ^ f) ∧ f + b.size = 10 ∧ Hid (mkS (dgs 10 K) = mkS (dgs f k) ++ b) ∧ Hid (Below w.heap.size w wr)) (fun _ t _ => (intOf t).toNat)
  case atStart => exact ⟨ByteArray.empty, K, 10, rfl, val_int HK.out, by omega, by unfold Hid; omega, rfl, by unfold Hid; simp, Below.refl _ _⟩
  case round =>
    obtain ⟨b, k, f, rfl, rfl, hk, HF, hf, HM, HB⟩ := hrel
    by_cases h0 : 0 < k
    · obtain ⟨g, rfl⟩ : ∃ g, f = g + 1 := by
        rcases f with _ | g
        · have := HF.out; simp at this; omega
        · exact ⟨g, rfl⟩
      have hcv := conv_one wr (48 + k % 10) (by omega)
      rw [show UInt8.ofNat (48 + k % 10) = dg8 k from rfl] at hcv
      have ec : ((48 + k % 10 : Nat) : Int) = 48 + (k : Int) % 10 := by omega
      rw [ec] at hcv
      have hs1 : (mkS [dg8 k]).size = 1 := rfl
      have hz : ¬ 9223372036854775807 < 1 + b.size := by omega
      go_wp2
      go_roundw
      case rel =>
        refine ⟨mkS [dg8 k] ++ b, k / 10, g, rfl, val_int (by omega), by omega, ?_, ?_, ?_, ext_alloc HB.out _⟩
        · have := HF.out
          rw [Nat.pow_succ] at this
          unfold Hid
          omega
        · rw [ByteArray.size_append]; omega
        · have e : dgs (g + 1) k = dgs g (k / 10) ++ [dg8 k] := by rw [dgs, if_neg (by omega)]
          have := HM.out
          rw [e, mkS_append] at this
          unfold Hid
          rw [this, ByteArray.append_assoc]
      case measure => simp [intOf]; omega
    · obtain rfl : k = 0 := by omega
      go_wp2
      go_ret
      refine ⟨?_, HB.out⟩
      have e : dgs f 0 = [] := by cases f <;> simp [dgs]
      have := HM.out
      rw [e, mkS_nil, ByteArray.empty_append] at this
      show Ending.returned (.string (mkS [109] ++ b)) = _
      rw [HK.out, mtext, show (109 :: dgs 10 (K : Int).toNat : List UInt8) = [109] ++ dgs 10 K from rfl, mkS_append, this]

end Go.Proofs.YtbcikkaoohihhaaGreatDoor
