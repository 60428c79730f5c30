/- ProvePeriod: both walks. No condition but those that each theorem names. -/
import Derived.Test.YtmgfceiomfiknaaDoorPdW
import Derived.Test.YtmgfceiomfiknaaDoorConcatW
import Derived.Test.YtmgfceiomfiknaaDoorCertW
namespace Go.Proofs.YtmgfceiomfiknaaDoor
open Go.RowKit Go.Sort Go.Maps Go.WideMaps

def ppX (s : Sd) : List Int := match pdR s with
  | some R => [s.1, s.2.1, s.2.2, ((headOf R).length : Int), ((cycOf R).length : Int)] ++ headOf R ++ cycOf R
  | none => []
def ppK (s : Sd) : Int := if (pdR s).isSome = true then 5 else 0
theorem ppX_none {s : Sd} (h : pdR s = none) : ppX s = [] := by simp [ppX, h]
theorem ppX_some {s : Sd} {R : List Sd × Nat} (h : pdR s = some R) : ppX s = [s.1, s.2.1, s.2.2, ((headOf R).length : Int), ((cycOf R).length : Int)] ++ headOf R ++ cycOf R := by simp [ppX, h]
theorem hc_len {L : List Sd} {i : Nat} (hi : i < L.length) : (headOf (L, i)).length = i ∧ (cycOf (L, i)).length = L.length - i := by
  have e1 : headOf (L, i) = (L.take i).map flS := rfl
  have e2 : cycOf (L, i) = (L.drop i).map flS := rfl
  rw [e1, e2, List.length_map, List.length_map, List.length_take, List.length_drop]
  omega
theorem ppX_length (s : Sd) : (ppX s).length ≤ 405 := by
  cases h : pdR s with
  | none => rw [ppX_none h]; simp
  | some R =>
    obtain ⟨L, i⟩ := R
    obtain ⟨_, _, _, h1, h2⟩ := pdR_facts h
    rw [ppX_some h]
    have := hc_len h1
    simp only [List.length_append, List.length_cons, List.length_nil]
    omega
theorem size_any (A : Option Addr) (n c : Nat) (w : World) : Calls Tryd.prog 80 #[.slice A n c] w fun e w' => e = .returned (.int .i64 (n : Int)) ∧ w = w' := by
  go_enter Tryd.func80, Tryd.ntmps80
  go_wp2
  go_ret
  exact ⟨rfl, rfl⟩
end Go.Proofs.YtmgfceiomfiknaaDoor
