/- The place of a name in a list of notes: plain laws, and the reference's search. No condition but those that each theorem names. -/
import Derived.Test.YtdjnblkgeaphmaaValidNotesW
import Derived.Test.YtdjnblkgeaphmaaSameDeskW
namespace Go.Proofs.Ytdjnblkgeaphmaa
open Go.RowKit Go.Sort

/-- The place of a name, the first, from k on. -/
def fndN (s : ByteArray) : List Nt → Nat → Int
  | [], _ => -1
  | x :: xs, k => if x.name = s then (k : Int) else fndN s xs (k + 1)
theorem fndN_yes {s : ByteArray} {xs : List Nt} {k : Nat} {x : Nt} (hx : xs[k]? = some x) (h : x.name = s) : fndN s (xs.drop k) k = (k : Int) := by
  obtain ⟨hlt, rfl⟩ := List.getElem?_eq_some_iff.1 hx
  rw [List.drop_eq_getElem_cons hlt, fndN, if_pos h]
theorem fndN_next {s : ByteArray} {xs : List Nt} {k : Nat} {x : Nt} (hx : xs[k]? = some x) (h : ¬ x.name = s) : fndN s (xs.drop k) k = fndN s (xs.drop (k + 1)) (k + 1) := by
  obtain ⟨hlt, rfl⟩ := List.getElem?_eq_some_iff.1 hx
  rw [List.drop_eq_getElem_cons hlt, fndN, if_neg h]
theorem fndN_end {s : ByteArray} {xs : List Nt} {k : Nat} (h : ¬ k < xs.length) : fndN s (xs.drop k) k = -1 := by
  rw [List.drop_eq_nil_of_le (by omega), fndN]
set_option maxHeartbeats 1000000 in
theorem l27Find_any (A : Option Addr) (c : Nat) (xs : List Nt) (s : ByteArray) (w : World) (hr : RdNt w w.heap.size A xs) (hl : xs.length ≤ maxLen) :
    Calls Try.prog 76 #[.slice A xs.length c, .string s] w fun e w' => e = .returned (.int .i64 (fndN s xs 0)) ∧ Below w.heap.size w w' := by
  unfold maxLen at hl
  obtain ⟨R, hR⟩ : ∃ R, fndN s xs 0 = R := ⟨_, rfl⟩
  rw [hR]
  have HR : Hid (fndN s (xs.drop 0) 0 = R) := by unfold Hid; rw [List.drop_zero]; exact hR
  clear hR
  go_enter Try.func76, Try.ntmps76
  go_wp2_with fail
  go_loopw [5] (fun t wr => ∃ k : Nat, k ≤ xs.length ∧ t = .int .i64 k ∧ Hid (fndN s (xs.drop k) k = R) ∧ Below w.heap.size w wr) (fun t _ => xs.length - (intOf t).toNat)
  case atStart => exact ⟨0, by omega, rfl, HR.out, Below.refl _ _⟩
  case round =>
    obtain ⟨k, hk, rfl, HK, hbe⟩ := hrel
    by_cases hlt : k < xs.length
    · obtain ⟨b, off, rfl, hb, hc⟩ := (hr.next hbe) (by omega)
      obtain ⟨x, hxk⟩ : ∃ x, xs[k]? = some x := ⟨_, List.getElem?_eq_getElem hlt⟩
      obtain ⟨T, ct, cr, cT⟩ := hc k x hxk
      have c0 := cr.nt.c0
      have i0 : (0 : Int) ≤ (k : Int) := by omega
      have i1 : (k : Int) < (xs.length : Int) := by omega
      by_cases hn : x.name = s
      · have HE : Hid (R = (k : Int)) := HK.out.symm.trans (fndN_yes hxk hn)
        subst hn
        clear hc hxk cr cT
        go_wp2
        go_ret
        exact ⟨ret_int HE.out.symm, hbe⟩
      · have HE : Hid (fndN s (xs.drop (k + 1)) (k + 1) = R) := (fndN_next hxk hn).symm.trans HK.out
        have hn' := strNe hn
        clear hc hxk cr cT
        go_wp2
        go_roundw
        case rel => exact ⟨k + 1, by omega, by go_num, HE.out, hbe⟩
        case measure => simp [intOf]; omega
    · have HE : Hid (-1 = R) := (fndN_end hlt).symm.trans HK.out
      go_wp2
      go_ret
      exact ⟨ret_int HE.out, hbe⟩
end Go.Proofs.Ytdjnblkgeaphmaa
