/- Certificates by value: copies, comparisons. No condition but those that each theorem names. -/
import Derived.Test.YtaajdkgcfoppeaaDoorSlices
import Derived.Deep.RegionHeld3
namespace Go.Proofs.YtaajdkgcfoppeaaDoor
open Go.RowKit Go.Sort

@[reducible] def certV (k : Int) (A : Option Addr) (n c : Nat) : Value := .agg #[.int .i64 k, .slice A n c]

theorem eqCertificate_any (k : Int) (A B : Option Addr) (c d : Nat) (xs : List Int) (w : World) (hx : Rd (Value.int .i64) w w.heap.size A xs) (hy : Rd (Value.int .i64) w w.heap.size B xs) (hm : xs.length ≤ maxLen) :
    Calls Tryd.prog 6 #[certV k A xs.length c, certV k B xs.length d] w fun e w' => e = .returned (.bool true) ∧ Below w.heap.size w w' := by
  have hx2 : ∀ o1 o2 : Obj, Rd (Value.int .i64) ((w.alloc o1).alloc o2) ((w.alloc o1).alloc o2).heap.size A xs := fun o1 o2 => (hx.below (ext_alloc (ext_alloc (Below.refl _ _) o1) o2)).more (by simp; omega)
  have hy2 : ∀ o1 o2 : Obj, Rd (Value.int .i64) ((w.alloc o1).alloc o2) ((w.alloc o1).alloc o2).heap.size B xs := fun o1 o2 => (hy.below (ext_alloc (ext_alloc (Below.refl _ _) o1) o2)).more (by simp; omega)
  have HX := Lib.hid hx2
  have HY := Lib.hid hy2
  clear hx2 hy2
  unfold certV
  go_enter Tryd.func6, Tryd.ntmps6
  go_wp2_with fail
  refine (eqInt64S_any A B c d xs xs _ (HX.out _ _) (HY.out _ _) hm hm).mono ?_
  rintro e w1 ⟨rfl, hb1⟩
  go_wp2
  go_ret
  exact ⟨rfl, ext_trans (ext_alloc (ext_alloc (Below.refl _ _) _) _) hb1⟩

theorem markCertificate_any (kk : Int) (A : Option Addr) (c : Nat) (xs : List Int) (base : Nat) (k : Int) (w : World) (hx : Wr (Value.int .i64) w base A xs) (hB : base ≤ w.heap.size) (hm : xs.length ≤ 1000000000000000) (hk : 0 ≤ k) (hk' : k ≤ 1000000000) :
    Calls Tryd.prog 7 #[certV kk A xs.length c, .int .i64 k] w fun e w' => e = .returned (.int .i64 (k + xs.length)) ∧ Wr (Value.int .i64) w' base A (marks k xs.length) ∧ Below base w w' ∧ w.heap.size ≤ w'.heap.size ∧ ∀ B', (0 < xs.length → ∃ b off, A = some ⟨b, off, none⟩ ∧ B' ≠ b) → B' < w.heap.size → ∀ o, w'.cell? ⟨B', o, none⟩ = w.cell? ⟨B', o, none⟩ := by
  have h1 : ∀ o, Wr (Value.int .i64) (w.alloc o) base A xs := fun o => hx.below (ext_alloc (Below.refl _ _) o)
  have H1 := Lib.hid h1
  clear h1
  unfold certV
  go_enter Tryd.func7, Tryd.ntmps7
  go_wp2_with fail
  refine (markInt64S_any A c xs base k _ (H1.out _) hm hk hk').mono ?_
  rintro e w1 ⟨rfl, hw1, hb1, hs1, ho1⟩
  go_wp2
  go_ret
  exact ⟨rfl, hw1, ((Below.refl _ _).alloc hB _).trans hb1, by rw [hs1]; simp, fun B' h1 h2 o => (ho1.cell h1 o).trans (World.cell?_alloc_lt _ _ ⟨B', o, none⟩ h2)⟩

theorem heldCertificate_any (kk : Int) (A : Option Addr) (c : Nat) (n : Nat) (k : Int) (w : World) (hx : Rd (Value.int .i64) w w.heap.size A (marks k n)) (hm : n ≤ 1000000000000000) (hk : 0 ≤ k) (hk' : k ≤ 1000000000) :
    Calls Tryd.prog 8 #[certV kk A n c, .int .i64 k] w fun e w' => e = .returned (.int .i64 (k + n)) ∧ Below w.heap.size w w' := by
  have h1 : ∀ o, Rd (Value.int .i64) (w.alloc o) (w.alloc o).heap.size A (marks k n) := fun o => (hx.below (ext_alloc (Below.refl _ _) o)).more (by simp)
  have H1 := Lib.hid h1
  clear h1
  unfold certV
  go_enter Tryd.func8, Tryd.ntmps8
  go_wp2_with fail
  refine (heldInt64S_any A c n k _ (H1.out _) hm hk hk').mono ?_
  rintro e w1 ⟨rfl, rfl⟩
  go_wp2
  go_ret
  exact ⟨rfl, ext_alloc (Below.refl _ _) _⟩

/-- What a call returns that makes a certificate, and a code. -/
def RetCertC (w : World) (k : Int) (xs : List Int) (code : Int) (e : Ending) (w' : World) : Prop :=
  ∃ A c, e = .returned (.tuple #[certV k A xs.length c, .int .i64 code]) ∧ Wr (Value.int .i64) w' w.heap.size A xs ∧ Below w.heap.size w w'
end Go.Proofs.YtaajdkgcfoppeaaDoor
