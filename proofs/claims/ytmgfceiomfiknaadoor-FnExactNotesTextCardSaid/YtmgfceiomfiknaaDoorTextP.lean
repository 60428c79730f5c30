/- The texts of notes: the plain law. No condition but those that each theorem names. -/
import Derived.Test.YtmgfceiomfiknaaDoorDecNW
import Derived.Test.YtmgfceiomfiknaaDoorNotes
namespace Go.Proofs.YtmgfceiomfiknaaDoor
open Go.RowKit Go.Sort

/-- The text of a fraction. -/
def frT (n d : Int) : ByteArray := if d = 1 then decB n else (decB n ++ ({ data := #[47] } : ByteArray)) ++ decB d
/-- The text of a surd. -/
def sdT (p d q : Int) : ByteArray := ((((({ data := #[40] } : ByteArray) ++ decB p) ++ ({ data := #[43, 114] } : ByteArray)) ++ decB d) ++ ({ data := #[41, 47] } : ByteArray)) ++ decB q
/-- The text of terms, up to k. -/
def tmO (ts : List Int) : Nat → ByteArray
  | 0 => ⟨#[]⟩
  | 1 => ({ data := #[91] } : ByteArray) ++ decB (ts.getD 0 0)
  | k + 2 => (tmO ts (k + 1) ++ (if k = 0 then ({ data := #[59, 32] } : ByteArray) else ({ data := #[44, 32] } : ByteArray))) ++ decB (ts.getD (k + 1) 0)
/-- The text of terms. -/
def tmT (ts : List Int) : ByteArray := tmO ts ts.length ++ ({ data := #[93] } : ByteArray)
theorem appSize (a b : ByteArray) : (a ++ b).size = a.size + b.size := ByteArray.size_append
theorem frT_size {n d : Int} (n1 : -1000000000 ≤ n) (n2 : n ≤ 1000000000) (d1 : -1000000000 ≤ d) (d2 : d ≤ 1000000000) : (frT n d).size ≤ 43 := by
  have h1 := decB_size (n := n) (by omega) (by omega)
  have h2 := decB_size (n := d) (by omega) (by omega)
  have l : ({ data := #[47] } : ByteArray).size = 1 := rfl
  unfold frT
  split
  · omega
  · rw [appSize, appSize]; omega
theorem tmO_size {ts : List Int} (h : ∀ t ∈ ts, -1000000000 ≤ t ∧ t ≤ 1000000000) : ∀ k, k ≤ ts.length → (tmO ts k).size ≤ 23 * k
  | 0, _ => by simp [tmO]; rfl
  | 1, hk => by
    have hx : ts[0]? = some (ts[0]'(by omega)) := List.getElem?_eq_getElem (by omega)
    have hb := h _ (List.getElem_mem (show 0 < ts.length by omega))
    have hz := decB_size (n := ts[0]'(by omega)) (by omega) (by omega)
    have l : ({ data := #[91] } : ByteArray).size = 1 := rfl
    unfold tmO
    simp only [List.getD, hx, Option.getD_some]
    rw [appSize]
    omega
  | k + 2, hk => by
    have ih := tmO_size h (k + 1) (by omega)
    have hx : ts[k + 1]? = some (ts[k + 1]'(by omega)) := List.getElem?_eq_getElem (by omega)
    have hb := h _ (List.getElem_mem (show k + 1 < ts.length by omega))
    have hz := decB_size (n := ts[k + 1]'(by omega)) (by omega) (by omega)
    have l1 : ({ data := #[59, 32] } : ByteArray).size = 2 := rfl
    have l2 : ({ data := #[44, 32] } : ByteArray).size = 2 := rfl
    unfold tmO
    simp only [List.getD, hx, Option.getD_some]
    rw [appSize, appSize]
    split <;> omega
/-- What stands behind a note's name. -/
def ntBody (x : Nt) : ByteArray := if x.kind = 1 then frT x.num x.den else if x.kind = 2 then tmT x.terms else sdT x.sp x.sd x.sq
/-- A note's line. -/
def ntLine (x : Nt) : ByteArray := ((x.name ++ ({ data := #[32, 61, 32] } : ByteArray)) ++ ntBody x) ++ ({ data := #[10] } : ByteArray)
/-- The text of the first k notes. -/
def ntsO (xs : List Nt) : Nat → ByteArray
  | 0 => ⟨#[]⟩
  | k + 1 => ntsO xs k ++ (match xs[k]? with | some x => ntLine x | none => ⟨#[]⟩)
end Go.Proofs.YtmgfceiomfiknaaDoor
