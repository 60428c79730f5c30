/- Sources of terms: both walks. No condition but those that each theorem names. -/
import Derived.Test.YtbcikkaoohihhaaGreatDoorTmP
import Derived.Test.YtbcikkaoohihhaaGreatDoorMrC
import Derived.IntWalk
namespace Go.Proofs.YtbcikkaoohihhaaGreatDoor
open Go.RowKit Go.Sort

@[reducible] def souV (H : Option Addr) (a ca : Nat) (P : Option Addr) (b cb : Nat) (G : Option Addr) (c cc : Nat) : Value := .agg #[.slice H a ca, .slice P b cb, .slice G c cc]
/-- The three slices read as a source. -/
structure RdSo (w : World) (B : Nat) (H P G : Option Addr) (s : So) : Prop where
  h : Rd (Value.int .i64) w B H s.hd
  p : Rd (Value.int .i64) w B P s.pd
  g : Rd (Value.int .i64) w B G s.gr
theorem RdSo.below {w w' : World} {B : Nat} {H P G : Option Addr} {s : So} (h : RdSo w B H P G s) (hb : Below B w w') : RdSo w' B H P G s := ⟨h.h.below hb, h.p.below hb, h.g.below hb⟩
theorem RdSo.more {w : World} {B B' : Nat} {H P G : Option Addr} {s : So} (h : RdSo w B H P G s) (hB : B ≤ B') : RdSo w B' H P G s := ⟨h.h.more hB, h.p.more hB, h.g.more hB⟩
theorem RdSo.next {w w' : World} {H P G : Option Addr} {s : So} (h : RdSo w w.heap.size H P G s) (hb : Below w.heap.size w w') : RdSo w' w'.heap.size H P G s := (h.below hb).more hb.size
/-- A source in block g. -/
structure SoAt (w : World) (g : Nat) (H P G : Option Addr) (ch cp cg : Nat) (s : So) : Prop where
  c0 : w.cell? ⟨g, 0, none⟩ = some (.slice H s.hd.length ch)
  c1 : w.cell? ⟨g, 1, none⟩ = some (.slice P s.pd.length cp)
  c2 : w.cell? ⟨g, 2, none⟩ = some (.slice G s.gr.length cg)
theorem SoAt.of_box {w : World} {g : Nat} {H P G : Option Addr} {ch cp cg : Nat} {s : So} (h : BoxV g [.slice H s.hd.length ch, .slice P s.pd.length cp, .slice G s.gr.length cg] w) : SoAt w g H P G ch cp cg s := ⟨h.at 0 _ rfl, h.at 1 _ rfl, h.at 2 _ rfl⟩
theorem SoAt.drewN {w : World} {g n : Nat} {H P G : Option Addr} {ch cp cg : Nat} {s : So} (h : SoAt w g H P G ch cp cg s) : SoAt (w.drewN n) g H P G ch cp cg s := ⟨h.c0, h.c1, h.c2⟩
theorem SoAt.below {w w' : World} {g B : Nat} {H P G : Option Addr} {ch cp cg : Nat} {s : So} (h : SoAt w g H P G ch cp cg s) (hb : Below B w w') (hg : g < B) : SoAt w' g H P G ch cp cg s :=
  ⟨(hb.cell (p := ⟨g, 0, none⟩) hg).trans h.c0, (hb.cell (p := ⟨g, 1, none⟩) hg).trans h.c1, (hb.cell (p := ⟨g, 2, none⟩) hg).trans h.c2⟩
theorem below_drewN {B n : Nat} {w w' : World} (h : Below B w w') : Below B w (w'.drewN n) := ⟨h.os, h.tape, h.output, h.size, h.block⟩
theorem sizeT_any (A : Option Addr) (n c : Nat) (w : World) : Calls Tryz.prog 114 #[.slice A n c] w fun e w' => e = .returned (.int .i64 (n : Int)) ∧ w = w' := by
  go_enter Tryz.func114, Tryz.ntmps114
  go_wp2
  go_ret
  exact ⟨rfl, rfl⟩

/-- What decides the tests ahead of the loops. -/
theorem soLen_bad {s : So} (h : ¬ (s.hd.length ≤ 30 ∧ s.pd.length ≤ 30 ∧ s.gr.length = s.pd.length ∧ s.hd.length + s.pd.length ≠ 0)) : soB s = false := by
  have : soLen s = false := by
    cases e : soLen s
    · rfl
    · exact absurd (soLen_true.1 e) h
  unfold soB
  rw [this, Bool.false_and]
end Go.Proofs.YtbcikkaoohihhaaGreatDoor
