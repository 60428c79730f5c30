/- Certificates by value: copies, comparisons. No condition but those that each theorem names. -/
import Derived.Test.YtmgfceiomfiknaaDoorSlices
import Derived.Deep.RegionHeld3
namespace Go.Proofs.YtmgfceiomfiknaaDoor
open Go.RowKit Go.Sort

@[reducible] def certV (k : Int) (A : Option Addr) (n c : Nat) : Value := .agg #[.int .i64 k, .slice A n c]

theorem szCertificate_any (k : Int) (A : Option Addr) (n c : Nat) (left : Int) (w : World) (hn : n ≤ maxLen) (h0 : 0 ≤ left) (h1 : left ≤ 1048576) :
    Calls Tryd.prog 6 #[certV k A n c, .int .i64 left] w fun e w' => e = .returned (.int .i64 (if (n : Int) ≤ left then left - n else -1)) ∧ Below w.heap.size w w' := by
  unfold certV
  by_cases h : (n : Int) ≤ left
  · rw [if_pos h]
    go_enter Tryd.func6, Tryd.ntmps6
    go_wp2_with fail
    refine (szInt64S_any A c n left _ hn h0 h1).mono ?_
    rw [if_pos h]
    rintro e w' ⟨rfl, rfl⟩
    have h2 : 0 ≤ left - n := by omega
    go_wp2
    go_ret
    exact ⟨rfl, ext_alloc (Below.refl _ _) _⟩
  · rw [if_neg h]
    go_enter Tryd.func6, Tryd.ntmps6
    go_wp2_with fail
    refine (szInt64S_any A c n left _ hn h0 h1).mono ?_
    rw [if_neg (show ¬ (n : Int) ≤ left by omega)]
    rintro e w' ⟨rfl, rfl⟩
    go_wp2
    go_ret
    exact ⟨rfl, ext_alloc (Below.refl _ _) _⟩

/-- What a call returns that makes a certificate. -/
def RetCert (w : World) (k : Int) (xs : List Int) (e : Ending) (w' : World) : Prop :=
  ∃ B d, e = .returned (certV k B xs.length d) ∧ Wr (Value.int .i64) w' w.heap.size B xs ∧ Below w.heap.size w w'

theorem toCertificate_any (k : Int) (A : Option Addr) (c : Nat) (xs : List Int) (w : World) (hx : Rd (Value.int .i64) w w.heap.size A xs) (hl : xs.length ≤ 1048576) :
    Calls Tryd.prog 8 #[certV k A xs.length c] w (RetCert w k xs) := by
  unfold certV
  have hx3 : ∀ o1 o2 o3 : Obj, Rd (Value.int .i64) (((w.alloc o1).alloc o2).alloc o3) (((w.alloc o1).alloc o2).alloc o3).heap.size A xs := fun o1 o2 o3 => (hx.below (ext_alloc (ext_alloc (ext_alloc (Below.refl _ _) o1) o2) o3)).more (by simp; omega)
  have HX := Lib.hid hx3
  clear hx3
  go_enter Tryd.func8, Tryd.ntmps8
  go_wp2_with fail
  refine (toInt64S_any A c xs _ (HX.out _ _ _) hl).mono ?_
  rintro e w1 ⟨B, d, rfl, hw, hb1⟩
  obtain ⟨hc1, hf1⟩ := bcell hb1
  have hy1 := hb1.size
  (try simp at hy1)
  have hz0 : w.heap.size < w1.heap.size := by omega
  have hz1 : w.heap.size + 1 < w1.heap.size := by omega
  have hz2 : w.heap.size + 1 + 1 < w1.heap.size := by omega
  go_wp2
  refine bodyPost_ret (v := certV k B xs.length d) (by simp [results, Tryd.results8, go_sem, hc1]) rfl ⟨B, d, rfl, ?_, ?_⟩
  · exact (((hw.setLow (by simp) _).setLow (by simp) _).setLow (by simp) _).more (by simp; omega)
  · exact ext_set (ext_set (ext_set (ext_trans (ext_alloc (ext_alloc (ext_alloc (Below.refl _ _) _) _) _) hb1) (by simp; omega) _) (by simp) _) (by simp) _

theorem eqCertificate_any (k : Int) (A B : Option Addr) (c d : Nat) (xs : List Int) (w : World) (hx : Rd (Value.int .i64) w w.heap.size A xs) (hy : Rd (Value.int .i64) w w.heap.size B xs) (hm : xs.length ≤ maxLen) :
    Calls Tryd.prog 10 #[certV k A xs.length c, certV k B xs.length d] w fun e w' => e = .returned (.bool true) ∧ Below w.heap.size w w' := by
  have hx2 : ∀ o1 o2 : Obj, Rd (Value.int .i64) ((w.alloc o1).alloc o2) ((w.alloc o1).alloc o2).heap.size A xs := fun o1 o2 => (hx.below (ext_alloc (ext_alloc (Below.refl _ _) o1) o2)).more (by simp; omega)
  have hy2 : ∀ o1 o2 : Obj, Rd (Value.int .i64) ((w.alloc o1).alloc o2) ((w.alloc o1).alloc o2).heap.size B xs := fun o1 o2 => (hy.below (ext_alloc (ext_alloc (Below.refl _ _) o1) o2)).more (by simp; omega)
  have HX := Lib.hid hx2
  have HY := Lib.hid hy2
  clear hx2 hy2
  unfold certV
  go_enter Tryd.func10, Tryd.ntmps10
  go_wp2_with fail
  refine (eqInt64S_any A B c d xs xs _ (HX.out _ _) (HY.out _ _) hm hm).mono ?_
  rintro e w1 ⟨rfl, hb1⟩
  go_wp2
  go_ret
  exact ⟨rfl, ext_trans (ext_alloc (ext_alloc (Below.refl _ _) _) _) hb1⟩

end Go.Proofs.YtmgfceiomfiknaaDoor
