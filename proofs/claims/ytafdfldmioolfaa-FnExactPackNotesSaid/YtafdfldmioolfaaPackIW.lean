/- PackNotes, the program's walk. No condition but those that each theorem names. -/
import Derived.Test.YtafdfldmioolfaaPackP
namespace Go.Proofs.Ytafdfldmioolfaa
open Go.RowKit Go.Sort Go.Maps Go.WideMaps

set_option maxRecDepth 100000 in
set_option maxHeartbeats 4000000 in
theorem iPackNotes_bad (A : Option Addr) (c : Nat) (xs : List Nt) (w : World) (hr : RdNt w w.heap.size A xs) (hf : ∀ x ∈ xs, x.fits) (hl : xs.length ≤ maxLen) (hv : validNt xs = false) :
    Calls Try.prog 57 #[.slice A xs.length c] w fun e w' => e = .returned (.tuple #[.string ByteArray.empty, .int .i64 1]) ∧ Below w.heap.size w w' := by
  have HC := Lib.hid (iValidNotes_any A c xs w hr hf hl)
  rw [hv] at HC
  clear hv hr hf
  go_enter Try.func57, Try.ntmps57
  go_wp2_with fail
  refine HC.out.mono ?_
  rintro e w1 ⟨rfl, hb1⟩
  go_wp2
  go_ret2
  exact ⟨rfl, hb1⟩
set_option maxRecDepth 100000 in
set_option maxHeartbeats 4000000 in
theorem sPackNotes_bad (A : Option Addr) (c : Nat) (xs : List Nt) (w : World) (hr : RdNt w w.heap.size A xs) (hf : ∀ x ∈ xs, x.fits) (hl : xs.length ≤ maxLen) (hv : validNt xs = false) :
    Calls Try.prog 55 #[.slice A xs.length c] w fun e w' => e = .returned (.tuple #[.string ByteArray.empty, .int .i64 1]) ∧ Below w.heap.size w w' := by
  have HC := Lib.hid (l27Ok_any A c xs w hr hf hl)
  rw [hv] at HC
  clear hv hr hf
  go_enter Try.func55, Try.ntmps55
  go_wp2_with fail
  refine HC.out.mono ?_
  rintro e w1 ⟨rfl, hb1⟩
  go_wp2
  go_ret2
  exact ⟨rfl, hb1⟩
end Go.Proofs.Ytafdfldmioolfaa
