/- A note of one's own: both walks. No condition but those that each theorem names. -/
import Derived.Test.YtkimmahmbacjpaaNotes
import Derived.Test.YtkimmahmbacjpaaCloneW
import Derived.Test.YtkimmahmbacjpaaBoxW
namespace Go.Proofs.Ytkimmahmbacjpaa
open Go.RowKit Go.Sort

def RetNt (w : World) (x : Nt) (e : Ending) (w' : World) : Prop :=
  ∃ B d, e = .returned (ntV x.name x.kind x.num x.den B x.terms.length d x.sp x.sd x.sq) ∧ WrT w' w.heap.size B d x.terms ∧ Below w.heap.size w w'
theorem BoxV.twoN (w : World) (a b : List Value) (t u : TypeId) : BoxV w.heap.size a ((w.alloc (.cells a.toArray t)).alloc (.cells b.toArray u)) ∧ BoxV (w.heap.size + 1) b ((w.alloc (.cells a.toArray t)).alloc (.cells b.toArray u)) := by
  refine ⟨by have h := (BoxV.new w a.toArray t).alloc (.cells b.toArray u); simpa using h, ?_⟩
  have h := BoxV.new (w.alloc (.cells a.toArray t)) b.toArray u
  rw [show (w.alloc (.cells a.toArray t)).heap.size = w.heap.size + 1 by simp] at h
  simpa using h
end Go.Proofs.Ytkimmahmbacjpaa
