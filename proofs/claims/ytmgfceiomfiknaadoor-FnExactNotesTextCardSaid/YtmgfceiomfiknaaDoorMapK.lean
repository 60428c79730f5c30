/- Maps whose keys are structs of integers. No condition but those that each theorem names. -/
import Derived.Test.YtmgfceiomfiknaaDoorBase
import Derived.DeepKeys4
import Derived.Maps.OwnSet
import Derived.Maps.Views
import Derived.Carry
namespace Go.Proofs.YtmgfceiomfiknaaDoor
open Go.RowKit Go.Sort Go.Maps Go.WideMaps

theorem step_mapUpdate {H : Type} {P : Program} {w : World} {ops : Array Oper} {o : Oper} {a : Act} {K' : Act → World → Prop} {Q : Exit → Act → World → Prop} {E : Prop}
    (hg : o.guard = none) (m x v : Operand) (t : TypeId) (hop : o.op = Op.mapUpdate t m x v)
    (k e : TypeId) (K : Keyed P k) (ht : P.underlying t = some (.map k e)) (R : Value → Option (DataW H × List MemPlace)) (b n : Nat) (D : DataW H)
    (hm : a.eval m = .map (some b)) (hown : w.ownsMap P k R b n D) (hn : n < maxLen) (key val : Value) (kl : Lit) (hx : a.eval x = key) (hv : a.eval v = val) (hkey : keyOf P k key = some kl)
    (d : DataW H) (ps : List MemPlace) (hval : R val = some (d, ps))
    (hK : ∀ w', w'.ownsMap P k R b (n + 1) (D.put kl d) → w.grownBy w' (some b) → K' (a.put o.dst undef) w') :
    if Region.wanted o (yielded ops a.tmps) = true then Oper.wp P o a w K' Q else E := by
  have hw : Region.wanted o (yielded ops a.tmps) = true := by simp [Region.wanted, hg]
  rw [if_pos hw]
  obtain ⟨w', hrun, r1, r2⟩ := hown.update K ht hn hkey hval
  unfold Oper.wp
  simp [execOp, hop, hm, hx, hv, hrun, Result.andThen]
  exact hK _ r1 r2

theorem wf64 {n : Int} (h1 : -9223372036854775808 ≤ n) (h2 : n ≤ 9223372036854775807) : (Lit.int .i64 n).wf = true := by
  have e1 : IntKind.i64.min = -9223372036854775808 := by decide
  have e2 : IntKind.i64.max = 9223372036854775807 := by decide
  show (decide (IntKind.i64.min ≤ n) && decide (n ≤ IntKind.i64.max)) = true
  rw [e1, e2]
  simp [h1, h2]
theorem laidOutM : laidOutB Tryd.prog = true := by kernel_rfl
theorem keyedSurd : Keyed Tryd.prog 58 := Keyed.of_law (deep_law_laid laidOutM (m := 2) (by omega) (of_decide_eq_true (by kernel_rfl)) (by kernel_rfl) (by rw [Tryd.underlying58]))
theorem keyOf_surd {a b c : Int} (wa : (Lit.int .i64 a).wf = true) (wb : (Lit.int .i64 b).wf = true) (wc : (Lit.int .i64 c).wf = true) : ∃ kl, keyOf Tryd.prog 58 (.agg #[.int .i64 a, .int .i64 b, .int .i64 c]) = some kl := by
  have hkt : Tryd.prog.keyType 58 = true := by kernel_rfl
  unfold keyOf
  simp only [Tryd.underlying58]
  have hco : Tryd.prog.cellsOf 58 = 3 := by kernel_rfl
  have hco2 : Tryd.prog.cellsOf 2 = 1 := by kernel_rfl
  obtain ⟨m, hsz⟩ : ∃ m, Tryd.prog.types.size = m + 1 + 1 := ⟨Tryd.prog.types.size - 2, by have : 2 ≤ Tryd.prog.types.size := of_decide_eq_true (by kernel_rfl); omega⟩
  rw [if_pos (by simp [hkt, Value.formed, Tryd.underlying58, hco]), hsz]
  unfold Program.keyLits
  simp only [Tryd.underlying58, Value.cells]
  simp [Program.keyLits, Tryd.underlying2, hco, hco2, wa, wb, wc]
end Go.Proofs.YtmgfceiomfiknaaDoor
