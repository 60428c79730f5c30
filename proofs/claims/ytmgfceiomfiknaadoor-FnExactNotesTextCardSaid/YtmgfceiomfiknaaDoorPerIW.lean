/- Surds up to the first that comes again: the program's walk. No condition but those that each theorem names. -/
import Derived.Test.YtmgfceiomfiknaaDoorPerW
import Derived.Test.YtmgfceiomfiknaaDoorPerK
import Derived.Test.YtmgfceiomfiknaaDoorConvW
namespace Go.Proofs.YtmgfceiomfiknaaDoor
open Go.RowKit Go.Sort Go.Maps Go.WideMaps

theorem infoSd : (Tryd.prog.info? 58).map (fun i => (i.zero, i.size, i.bytes)) = some (some (.agg #[.int .i64 0, .int .i64 0, .int .i64 0]), 3, 24) := by kernel_rfl
theorem zeroInt (w : World) : (zeroValue 3).run Tryd.prog w = .ok (.int .i64 0) w := by kernel_rfl
theorem grown_of {w w' : World} (hb : Below w.heap.size w w') : w.grownBy w' none := ⟨hb.os, hb.tape, hb.output, hb.size, fun k hk _ => hb.block k hk⟩
/-- What a call returns that goes along surds. -/
def RetSo (w : World) (R : Option (List Sd × Nat)) (e : Ending) (w' : World) : Prop :=
  ∃ A c, e = .returned (.tuple #[.slice A (R.getD ([], 0)).1.length c, .int .i64 ((R.getD ([], 0)).2 : Int), .bool R.isSome]) ∧ Wr (Value.int .i64) w' w.heap.size A (sdL (R.getD ([], 0)).1) ∧ Below w.heap.size w w'
def lenOf : Value → Nat
  | .slice _ n _ => n
  | _ => 0
end Go.Proofs.YtmgfceiomfiknaaDoor
