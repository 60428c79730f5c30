/- How an argument of a statement is opened: a note by value. No condition. -/
import Derived.Test.YtdjnblkgeaphmaaOpenNt
namespace Go.Proofs.Ytdjnblkgeaphmaa
open Go.ChangeShapes Go.WideShapes Go.ChangeAt Go.RowKit

/-- What a walk is told of a note that came in. -/
def IsNt1 (w : World) (y : Nt) (T : Option Addr) (c : Nat) : Prop := y.fits ∧ RdT w w.heap.size T c y.terms
section
variable {H : Type} {enc : TypeId × Value → H} {P : Program} {w : World}
theorem nt_cells {e tS tI tF tL tQ : TypeId} {n0 n1 n2 n3 n4 : Field} {fF fQ : Array Field} {fuel : Nat} {cs : List Value} {x : DataW H × List MemPlace} (he : P.underlying e = some (.struct #[n0, n1, n2, n3, n4]))
    (h0 : n0.offset = 0 ∧ n0.type = tS) (h1 : n1.offset = 1 ∧ n1.type = tI) (h2 : n2.offset = 2 ∧ n2.type = tF) (h3 : n3.offset = 4 ∧ n3.type = tL) (h4 : n4.offset = 5 ∧ n4.type = tQ)
    (hS : P.underlying tS = some .string) (hI : P.underlying tI = some (.int .i64)) (hF : P.underlying tF = some (.struct fF)) (hL : P.underlying tL = some (.slice tI)) (hQ : P.underlying tQ = some (.struct fQ))
    (sF : fF.size = 2 ∧ ∀ (i : Nat) (f : Field), fF[i]? = some f → f.offset = i ∧ f.type = tI) (sQ : fQ.size = 3 ∧ ∀ (i : Nat) (f : Field), fQ[i]? = some f → f.offset = i ∧ f.type = tI)
    (kS : P.cellsOf tS = 1) (kI : P.cellsOf tI = 1) (kF : P.cellsOf tF = 2) (kL : P.cellsOf tL = 1) (kQ : P.cellsOf tQ = 3)
    (hcl : cs.length = 8) (h : DataW.trod enc P w 0 (fun _ => true) true fuel e cs = some x) :
    ∃ (y : Nt) (T : Option Addr) (c : Nat), cs = ntC y T c ∧ IsNt1 w y T c := by
  obtain ⟨xs, n, _, _, _, hlen, hg⟩ := DataW.trod_struct he h
  have hl5 : xs.length = 5 := hlen
  match cs, hcl with
  | [v0, v1, v2, v3, v4, v5, v6, v7], _ =>
    have g0 := hg 0 n0 rfl
    have g1 := hg 1 n1 rfl
    have g2 := hg 2 n2 rfl
    have g3 := hg 3 n3 rfl
    have g4 := hg 4 n4 rfl
    rw [h0.1, h0.2, kS] at g0
    rw [h1.1, h1.2, kI] at g1
    rw [h2.1, h2.2, kF] at g2
    rw [h3.1, h3.2, kL] at g3
    rw [h4.1, h4.2, kQ] at g4
    simp only [List.drop_zero, List.drop_succ_cons, List.take_succ_cons, List.take_zero] at g0 g1 g2 g3 g4
    rw [List.getElem?_eq_getElem (by omega)] at g0 g1 g2 g3 g4
    obtain ⟨s, e0, _, ws⟩ := DataW.trod_string hS g0
    obtain ⟨k, e1, _⟩ := DataW.trod_int hI g1
    obtain ⟨fr, e2⟩ := ints_of hF hI kI sF.2 g2 sF.1.symm
    obtain ⟨T, l, c, zs, e3, hr⟩ := isRow_of hL hI kI g3
    obtain ⟨sr, e4⟩ := ints_of hQ hI kI sQ.2 g4 sQ.1.symm
    obtain ⟨r1, r2, r3, _⟩ := hr.rd
    match fr, sr with
    | [m0, m1], [q0, q1, q2] =>
      simp only [List.map_cons, List.map_nil, List.cons.injEq, and_true] at e0 e1 e2 e3 e4
      obtain ⟨e2a, e2b⟩ := e2
      obtain ⟨e4a, e4b, e4c⟩ := e4
      subst e0 e1 e2a e2b e3 e4a e4b e4c
      refine ⟨⟨s, k, m0, m1, zs.take l, q0, q1, q2⟩, T, c, ?_, ⟨ws, by show (zs.take l).length ≤ _; omega⟩, r3, by show (zs.take l).length ≤ c; rw [r1]; exact hr.cap.1, hr.cap.2⟩
      simp only [ntC, r1]
end

section
variable {H : Type} {enc : TypeId × Value → H} {w : World}
set_option maxRecDepth 100000 in
theorem open_note {r : Reach} {b0 : Nat} {v : Value} {d : DataW H} {p : List MemPlace} (hv : Value.okWide Try.prog w r b0 45 v) (h : DataW.Trod enc Try.prog w 0 (fun _ => true) true 45 v d p) :
    ∃ (y : Nt) (T : Option Addr) (c : Nat), v = ntV y.name y.kind y.num y.den T y.terms.length c y.sp y.sd y.sq ∧ IsNt1 w y T c := by
  obtain ⟨cs, rfl, hsz⟩ := okWide_struct Try.underlying45 hv
  obtain ⟨fuel, hf⟩ := h
  obtain ⟨cl⟩ := cs
  have h8 : Try.prog.cellsOf 45 = 8 := by kernel_rfl
  obtain ⟨y, T, c, e, hr⟩ := nt_cells Try.underlying45 ⟨rfl, rfl⟩ ⟨rfl, rfl⟩ ⟨rfl, rfl⟩ ⟨rfl, rfl⟩ ⟨rfl, rfl⟩ Try.underlying9 Try.underlying2 Try.underlying42 Try.underlying26 Try.underlying43
    (two_fields ⟨rfl, rfl⟩ ⟨rfl, rfl⟩) (three_fields ⟨rfl, rfl⟩ ⟨rfl, rfl⟩ ⟨rfl, rfl⟩) (by kernel_rfl) (by kernel_rfl) (by kernel_rfl) (by kernel_rfl) (by kernel_rfl) (by have := hsz.trans h8; exact this) hf
  refine ⟨y, T, c, ?_, hr⟩
  have e2 : cl = ntC y T c := by simpa [Value.cells] using e
  rw [e2]
  rfl
end
end Go.Proofs.Ytdjnblkgeaphmaa
