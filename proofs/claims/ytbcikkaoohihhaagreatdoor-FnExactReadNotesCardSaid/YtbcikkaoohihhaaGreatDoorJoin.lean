/- Closed facts of the seat's program, each by itself, and how they join. No condition. -/
import Derived.Test.YtbcikkaoohihhaaGreatDoorRows
import Derived.JoinedOf
namespace Go.Proofs.YtbcikkaoohihhaaGreatDoor

theorem frLaid : laidOutB Tryz.prog = true := by kernel_rfl
theorem frRowed : mapsRowed Tryz.prog = true := by kernel_rfl
theorem frKeys : Tryz.prog.plainKeys = true := by kernel_rfl
theorem frHeard : Tryz.prog.stopsHeard = true := by kernel_rfl
theorem frEnter : Tryz.prog.mayEnter = true := by kernel_rfl
theorem frLift : (({ program := "", sum := "", func := "", spec := "" } : OpenClaim).lifted == Tryz.prog.liftsFinal) = true := by kernel_rfl
theorem frMake : (Tryz.prog.make == some ({ program := "", sum := "", func := "", spec := "" } : OpenClaim).make) = true := by kernel_rfl
theorem frStops : (Tryz.prog.stops == []) = true := by kernel_rfl
theorem frKnobs : (Tryz.prog.stopKnobs == []) = true := by kernel_rfl

theorem joined_of {f : FuncId} {fn : Func} {s : ChangeSpec} {c : OpenClaim} (a1 : c.wf (OpenSpec.ofChange s) = true) (a2 : fn.params.all (Tryz.prog.readableRec ·) = true) (a3 : namedTie Tryz.prog c.named s.vars = true)
    (a4 : (c.stops == []) = true) (a5 : (c.knobs == []) = true) (a6 : (c.inPlace == Tryz.prog.inPlace f) = true) (a7 : (c.unfollowed == Tryz.prog.unfollowed f) = true) (a8 : (c.recurses == Tryz.prog.recurses f) = true) (a9 : (c.named == Tryz.prog.varsNamed f) = true)
    (a10 : (c.maps == (fn.params.toList ++ s.plain.varTypes Tryz.prog).any (Tryz.prog.mapsRec ·)) = true) (a11 : (c.ifaces == (fn.params.toList ++ s.plain.varTypes Tryz.prog).any (Tryz.prog.ifacesRec ·)) = true) (a12 : (c.mapsOut == Tryz.prog.mapsAmong fn.resultTypes.toList) = true)
    (a13 : (c.loops == (fn.params.toList ++ s.plain.varTypes Tryz.prog).any (Tryz.prog.loopsFrom ·)) = true) (a14 : (c.wideKeys == (fn.params.toList ++ s.plain.varTypes Tryz.prog ++ fn.resultTypes.toList).any (Tryz.prog.wideKeysFrom ·)) = true)
    (a15 : s.vars.all (Tryz.prog.varReadable ·) = true) (a16 : fn.resultTypes.all (fun t => Tryz.prog.readableRec t && decide (t < Tryz.prog.types.size)) = true) (a17 : (c.ifacesOut == fn.resultTypes.toList.any (Tryz.prog.ifacesRec ·)) = true) (a18 : (c.loopsOut == fn.resultTypes.toList.any (Tryz.prog.loopsFrom ·)) = true)
    (a19 : c.plainKeys = true) (a20 : c.shortTexts.isNone = true) (a21 : c.lifted = ({ program := "", sum := "", func := "", spec := "" } : OpenClaim).lifted) (a22 : c.make = ({ program := "", sum := "", func := "", spec := "" } : OpenClaim).make)
    (a23 : c.kinds = []) (a23' : c.domain = []) (a24 : (c.pinned == c.pinnedBy) = true)
    (a25 : (c.veiled == (fn.params.toList ++ s.plain.varTypes Tryz.prog ++ fn.resultTypes.toList).any (Tryz.prog.veiledRec ·)) = true) (a26 : c.veiledFits Tryz.prog fn.params.toList (fn.params.toList ++ s.plain.varTypes Tryz.prog ++ fn.resultTypes.toList) = true) :
    joinedFacts Tryz.prog f fn s c = true := by
  have b19 : (c.plainKeys == Tryz.prog.plainKeys) = true := by rw [a19, frKeys]; rfl
  have b21 : (c.lifted == Tryz.prog.liftsFinal) = true := by rw [a21]; exact frLift
  have b22 : (Tryz.prog.make == some c.make) = true := by rw [a22]; exact frMake
  unfold joinedFacts
  rw [a1, frLaid, frRowed, a2, a3, a4, frStops, a5, frKnobs, a6, a7, a8, a9, a10, a11, a12, a13, a14, a15, a16, a17, a18, b19, a20, frHeard, frEnter, b21, b22, a23, a23', a24, a25, a26]
  rfl
end Go.Proofs.YtbcikkaoohihhaaGreatDoor
