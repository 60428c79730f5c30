/- How an argument of a statement is opened: notes. No condition. -/
import Derived.Test.YtmgfceiomfiknaaDoorOpenNd
import Derived.Test.YtmgfceiomfiknaaDoorNotes
namespace Go.Proofs.YtmgfceiomfiknaaDoor
open Go.ChangeShapes Go.WideShapes Go.ChangeAt Go.RowKit

/-- What a walk is told of a slice of notes that came in. -/
def IsNt (w : World) (A : Option Addr) (l : Nat) (zs : List Nt) : Prop := zs.length = l ∧ l ≤ maxLen ∧ (∀ x ∈ zs, x.fits) ∧ RdNt w w.heap.size A zs

section
variable {H : Type} {enc : TypeId × Value → H} {P : Program} {w : World}
/-- A struct of n integers among the cells. -/
theorem ints_of {t tI : TypeId} {fs : Array Field} {fuel : Nat} {cs : List Value} {x : DataW H × List MemPlace} (ht : P.underlying t = some (.struct fs)) (hI : P.underlying tI = some (.int .i64)) (kI : P.cellsOf tI = 1) (hf : ∀ (i : Nat) (f : Field), fs[i]? = some f → f.offset = i ∧ f.type = tI)
    (h : DataW.trod enc P w 0 (fun _ => true) true fuel t cs = some x) (hn : cs.length = fs.size) : ∃ ns : List Int, cs = ns.map (Value.int .i64) := by
  obtain ⟨xs, n, _, _, _, hlen, hg⟩ := DataW.trod_struct ht h
  have each : ∀ i, i < cs.length → ∃ m : Int, cs[i]? = some (.int .i64 m) := fun i hi => by
    have hfi : fs[i]? = some (fs[i]'(by omega)) := Array.getElem?_eq_getElem (by omega)
    obtain ⟨h1, h2⟩ := hf i _ hfi
    have g := hg i _ hfi
    rw [h1, h2, kI, List.drop_eq_getElem_cons hi, List.take_succ_cons, List.take_zero, List.getElem?_eq_getElem (by omega)] at g
    obtain ⟨m, e, _⟩ := DataW.trod_int hI g
    simp only [List.cons.injEq, and_true] at e
    exact ⟨m, by rw [List.getElem?_eq_getElem hi, e]⟩
  obtain ⟨f, hf'⟩ := Deep.choose_lt each
  refine ⟨(List.range cs.length).map f, List.ext_getElem? fun i => ?_⟩
  by_cases hi : i < cs.length
  · rw [hf' i hi]; simp [hi]
  · simp [hi]

theorem nt_elem {e tS tI tF tL tQ : TypeId} {n0 n1 n2 n3 n4 : Field} {fF fQ : Array Field} {fuel : Nat} {cs : List Value} {x : DataW H × List MemPlace} {a : Addr} (he : P.underlying e = some (.struct #[n0, n1, n2, n3, n4]))
    (h0 : n0.offset = 0 ∧ n0.type = tS) (h1 : n1.offset = 1 ∧ n1.type = tI) (h2 : n2.offset = 2 ∧ n2.type = tF) (h3 : n3.offset = 4 ∧ n3.type = tL) (h4 : n4.offset = 5 ∧ n4.type = tQ)
    (hS : P.underlying tS = some .string) (hI : P.underlying tI = some (.int .i64)) (hF : P.underlying tF = some (.struct fF)) (hL : P.underlying tL = some (.slice tI)) (hQ : P.underlying tQ = some (.struct fQ))
    (sF : fF.size = 2 ∧ ∀ (i : Nat) (f : Field), fF[i]? = some f → f.offset = i ∧ f.type = tI) (sQ : fQ.size = 3 ∧ ∀ (i : Nat) (f : Field), fQ[i]? = some f → f.offset = i ∧ f.type = tI)
    (h8 : P.cellsOf e = 8) (kS : P.cellsOf tS = 1) (kI : P.cellsOf tI = 1) (kF : P.cellsOf tF = 2) (kL : P.cellsOf tL = 1) (kQ : P.cellsOf tQ = 3)
    (hc : w.cells? 0 a (P.cellsOf e) = some cs) (h : DataW.trod enc P w 0 (fun _ => true) true fuel e cs = some x) :
    ∃ y : Nt, y.fits ∧ ∃ T c, (∀ i v, (ntC y T c)[i]? = some v → w.cell? (a.add i) = some v) ∧ RdT w w.heap.size T c y.terms := by
  rw [h8] at hc
  obtain ⟨_, hcl, hat⟩ := World.cells?_some hc
  obtain ⟨xs, n, _, _, _, hlen, hg⟩ := DataW.trod_struct he h
  have hl5 : xs.length = 5 := hlen
  match cs, hcl with
  | [v0, v1, v2, v3, v4, v5, v6, v7], _ =>
    have g0 := hg 0 n0 rfl
    have g1 := hg 1 n1 rfl
    have g2 := hg 2 n2 rfl
    have g3 := hg 3 n3 rfl
    have g4 := hg 4 n4 rfl
    rw [h0.1, h0.2, kS] at g0
    rw [h1.1, h1.2, kI] at g1
    rw [h2.1, h2.2, kF] at g2
    rw [h3.1, h3.2, kL] at g3
    rw [h4.1, h4.2, kQ] at g4
    simp only [List.drop_zero, List.drop_succ_cons, List.take_succ_cons, List.take_zero] at g0 g1 g2 g3 g4
    rw [List.getElem?_eq_getElem (by omega)] at g0 g1 g2 g3 g4
    obtain ⟨s, e0, _, ws⟩ := DataW.trod_string hS g0
    obtain ⟨k, e1, _⟩ := DataW.trod_int hI g1
    obtain ⟨fr, e2⟩ := ints_of hF hI kI sF.2 g2 sF.1.symm
    obtain ⟨T, l, c, zs, e3, hr⟩ := isRow_of hL hI kI g3
    obtain ⟨sr, e4⟩ := ints_of hQ hI kI sQ.2 g4 sQ.1.symm
    obtain ⟨r1, r2, r3, _⟩ := hr.rd
    match fr, sr with
    | [m0, m1], [q0, q1, q2] =>
      simp only [List.map_cons, List.map_nil, List.cons.injEq, and_true] at e0 e1 e2 e3 e4
      obtain ⟨e2a, e2b⟩ := e2
      obtain ⟨e4a, e4b, e4c⟩ := e4
      subst e0 e1 e2a e2b e3 e4a e4b e4c
      refine ⟨⟨s, k, m0, m1, zs.take l, q0, q1, q2⟩, ⟨ws, by show (zs.take l).length ≤ _; omega⟩, T, c, fun i v hv => ?_, r3, by show (zs.take l).length ≤ c; rw [r1]; exact hr.cap.1, hr.cap.2⟩
      have hi : i < 8 := (List.getElem?_eq_some_iff.1 hv).1
      rw [hat i hi, ← hv]
      simp only [ntC, r1]

theorem isNt_of' {t e tS tI tF tL tQ : TypeId} {n0 n1 n2 n3 n4 : Field} {fF fQ : Array Field} {fuel : Nat} {cs : List Value} {x : DataW H × List MemPlace} (ht : P.underlying t = some (.slice e)) (he : P.underlying e = some (.struct #[n0, n1, n2, n3, n4]))
    (h0 : n0.offset = 0 ∧ n0.type = tS) (h1 : n1.offset = 1 ∧ n1.type = tI) (h2 : n2.offset = 2 ∧ n2.type = tF) (h3 : n3.offset = 4 ∧ n3.type = tL) (h4 : n4.offset = 5 ∧ n4.type = tQ)
    (hS : P.underlying tS = some .string) (hI : P.underlying tI = some (.int .i64)) (hF : P.underlying tF = some (.struct fF)) (hL : P.underlying tL = some (.slice tI)) (hQ : P.underlying tQ = some (.struct fQ))
    (sF : fF.size = 2 ∧ ∀ (i : Nat) (f : Field), fF[i]? = some f → f.offset = i ∧ f.type = tI) (sQ : fQ.size = 3 ∧ ∀ (i : Nat) (f : Field), fQ[i]? = some f → f.offset = i ∧ f.type = tI)
    (h8 : P.cellsOf e = 8) (kS : P.cellsOf tS = 1) (kI : P.cellsOf tI = 1) (kF : P.cellsOf tF = 2) (kL : P.cellsOf tL = 1) (kQ : P.cellsOf tQ = 3)
    (hf : DataW.trod enc P w 0 (fun _ => true) true fuel t cs = some x) : ∃ A l c zs, cs = [Value.slice A l c] ∧ IsNt w A l zs := by
  rcases Deep.open_slice ht hf with ⟨rfl, _⟩ | ⟨a, len, cap, m, n, D, Pl, rfl, _, hl, hm, hmm, _, hi⟩
  · exact ⟨none, 0, 0, [], rfl, rfl, Nat.zero_le _, fun x hx => absurd hx (by simp), fun h => absurd h (by simp)⟩
  · simp only [if_true] at hmm
    have each : ∀ i, i < len → ∃ y : Nt, y.fits ∧ ∃ T c, (∀ j v, (ntC y T c)[j]? = some v → w.cell? ((a.add (i * 8)).add j) = some v) ∧ RdT w w.heap.size T c y.terms := fun i h => by
      obtain ⟨cs', hc, ht'⟩ := hi i (by omega)
      have := nt_elem he h0 h1 h2 h3 h4 hS hI hF hL hQ sF sQ h8 kS kI kF kL kQ hc ht'
      rwa [h8] at this
    obtain ⟨y, hy⟩ := Deep.choose_lt each
    refine ⟨some a, len, cap, (List.range len).map y, rfl, by simp, by omega, fun x hx => ?_, fun hp => ?_⟩
    · obtain ⟨i, hi, rfl⟩ := List.mem_map.1 hx
      exact (hy i (List.mem_range.1 hi)).1
    · rw [List.length_map, List.length_range] at hp
      obtain ⟨_, T, c, g0, _⟩ := hy 0 hp
      have g00 := g0 0 _ rfl
      have ea : (a.add (0 * 8)).add 0 = a := by simp [Addr.add]
      rw [ea] at g00
      obtain ⟨b, off, rfl, hb⟩ := cell_plain g00
      refine ⟨b, off, rfl, hb, fun j x hx => ?_⟩
      rw [List.getElem?_map] at hx
      obtain ⟨k, hk, rfl⟩ := Option.map_eq_some_iff.1 hx
      obtain ⟨hk1, hk2⟩ := List.getElem?_eq_some_iff.1 hk
      rw [List.getElem_range] at hk2
      subst hk2
      rw [List.length_range] at hk1
      obtain ⟨_, T, c, e0, e2⟩ := hy j hk1
      refine ⟨T, c, fun i v hv => ?_, e2⟩
      have := e0 i v hv
      rwa [add_plain, add_plain] at this
end

section
variable {H : Type} {enc : TypeId × Value → H} {w : World}
theorem two_fields {f0 f1 : Field} {tI : TypeId} (h0 : f0.offset = 0 ∧ f0.type = tI) (h1 : f1.offset = 1 ∧ f1.type = tI) : (#[f0, f1] : Array Field).size = 2 ∧ ∀ (i : Nat) (f : Field), (#[f0, f1] : Array Field)[i]? = some f → f.offset = i ∧ f.type = tI := by
  refine ⟨rfl, fun i f hf => ?_⟩
  match i, hf with
  | 0, hf => simp at hf; subst hf; exact h0
  | 1, hf => simp at hf; subst hf; exact h1
theorem three_fields {f0 f1 f2 : Field} {tI : TypeId} (h0 : f0.offset = 0 ∧ f0.type = tI) (h1 : f1.offset = 1 ∧ f1.type = tI) (h2 : f2.offset = 2 ∧ f2.type = tI) : (#[f0, f1, f2] : Array Field).size = 3 ∧ ∀ (i : Nat) (f : Field), (#[f0, f1, f2] : Array Field)[i]? = some f → f.offset = i ∧ f.type = tI := by
  refine ⟨rfl, fun i f hf => ?_⟩
  match i, hf with
  | 0, hf => simp at hf; subst hf; exact h0
  | 1, hf => simp at hf; subst hf; exact h1
  | 2, hf => simp at hf; subst hf; exact h2
set_option maxRecDepth 100000 in
theorem isNt_of {fuel : Nat} {cs : List Value} {x : DataW H × List MemPlace} (hf : DataW.trod enc Tryd.prog w 0 (fun _ => true) true fuel 31 cs = some x) : ∃ A l c zs, cs = [Value.slice A l c] ∧ IsNt w A l zs :=
  isNt_of' Tryd.underlying31 Tryd.underlying55 ⟨rfl, rfl⟩ ⟨rfl, rfl⟩ ⟨rfl, rfl⟩ ⟨rfl, rfl⟩ ⟨rfl, rfl⟩ Tryd.underlying9 Tryd.underlying2 Tryd.underlying51 Tryd.underlying22 Tryd.underlying53
    (two_fields ⟨rfl, rfl⟩ ⟨rfl, rfl⟩) (three_fields ⟨rfl, rfl⟩ ⟨rfl, rfl⟩ ⟨rfl, rfl⟩) (by kernel_rfl) (by kernel_rfl) (by kernel_rfl) (by kernel_rfl) (by kernel_rfl) (by kernel_rfl) hf
theorem isNt_arg {A : Option Addr} {l c : Nat} {d : DataW H} {ps : List MemPlace} (h : DataW.Trod enc Tryd.prog w 0 (fun _ => true) true 31 (.slice A l c) d ps) : ∃ zs, IsNt w A l zs := by
  obtain ⟨fuel, hf⟩ := h
  obtain ⟨A', l', c', zs, hcs, hr⟩ := isNt_of hf
  simp [Value.cells] at hcs
  obtain ⟨rfl, rfl, rfl⟩ := hcs
  exact ⟨zs, hr⟩
end
end Go.Proofs.YtmgfceiomfiknaaDoor
