/- PackNotes: both sides. No condition but those that each theorem names. -/
import Derived.Test.YtafdfldmioolfaaPackSV
namespace Go.Proofs.Ytafdfldmioolfaa
open Go.RowKit Go.Sort Go.Maps Go.WideMaps

def pnS (xs : List Nt) : ByteArray := if validNt xs = true then endB (bookB xs) else ByteArray.empty
def pnC (xs : List Nt) : Int := if validNt xs = true then 0 else 1
set_option maxHeartbeats 1000000 in
theorem sPackNotes_any (A : Option Addr) (c : Nat) (xs : List Nt) (w : World) (hr : RdNt w w.heap.size A xs) (hf : ∀ x ∈ xs, x.fits) (hl : xs.length ≤ maxLen) :
    Calls Try.prog 55 #[.slice A xs.length c] w fun e w' => e = .returned (.tuple #[.string (pnS xs), .int .i64 (pnC xs)]) ∧ Below w.heap.size w w' := by
  cases hv : validNt xs
  · have h := sPackNotes_bad A c xs w hr hf hl hv
    unfold pnS pnC
    rw [hv]
    exact h
  · obtain ⟨h40, _⟩ := valid_all hv
    have HC := Lib.hid (l27Ok_any A c xs w hr hf hl)
    have HP : Hid (∀ W, Below w.heap.size w W → Calls Try.prog 131 #[.slice A xs.length c] W fun e w' => e = .returned (.string (endB (bookB xs))) ∧ Below W.heap.size W w') := fun W hb => l27Pack_any A c xs W (hr.next hb) h40 hv
    unfold pnS pnC
    rw [hv] at HC ⊢
    clear hr hf hv
    simp only [if_true]
    generalize endB (bookB xs) = R at *
    go_enter Try.func55, Try.ntmps55
    go_wp2_with fail
    refine HC.out.mono ?_
    rintro e w1 ⟨rfl, hb1⟩
    go_wp2_with fail
    refine (HP.out _ hb1).mono ?_
    rintro e w2 ⟨rfl, hb2⟩
    go_wp2
    go_ret2
    exact ⟨rfl, ext_trans hb1 hb2⟩
theorem iPackNotes_any (A : Option Addr) (c : Nat) (xs : List Nt) (w : World) (hr : RdNt w w.heap.size A xs) (hf : ∀ x ∈ xs, x.fits) (hl : xs.length ≤ maxLen) :
    Calls Try.prog 57 #[.slice A xs.length c] w fun e w' => e = .returned (.tuple #[.string (pnS xs), .int .i64 (pnC xs)]) ∧ Below w.heap.size w w' := by
  cases hv : validNt xs
  · have h := iPackNotes_bad A c xs w hr hf hl hv
    unfold pnS pnC
    rw [hv]
    exact h
  · obtain ⟨h40, _⟩ := valid_all hv
    have h := iPackNotes_good A c xs w hr hf h40 hv
    unfold pnS pnC
    rw [hv]
    exact h
end Go.Proofs.Ytafdfldmioolfaa
