/- How an argument of a statement is opened: named terms. No condition. -/
import Derived.Test.YtmgfceiomfiknaaDoorFrame
import Derived.Test.YtmgfceiomfiknaaDoorNamed
import Derived.Deep.Slices
namespace Go.Proofs.YtmgfceiomfiknaaDoor
open Go.ChangeShapes Go.WideShapes Go.ChangeAt Go.RowKit

/-- What a walk is told of a slice of named terms that came in. -/
def IsNd (w : World) (A : Option Addr) (l : Nat) (zs : List Nd) : Prop := zs.length = l ∧ l ≤ maxLen ∧ (∀ x ∈ zs, x.fits) ∧ RdN w w.heap.size A zs

theorem IsRow.cap {k : IntKind} {w : World} {A : Option Addr} {l c : Nat} {zs : List Int} (h : IsRow k w A l c zs) : l ≤ c ∧ c ≤ maxLen := by
  rcases h with ⟨_, rfl, rfl, _⟩ | ⟨x, _, hl, hm, _⟩
  · exact ⟨Nat.le_refl _, Nat.zero_le _⟩
  · exact ⟨hl, hm⟩
theorem add_plain (b off j : Nat) : (⟨b, off, none⟩ : Addr).add j = ⟨b, off + j, none⟩ := by
  unfold Addr.add
  by_cases hj : j = 0 <;> simp [hj]

section
variable {H : Type} {enc : TypeId × Value → H} {P : Program} {w : World}
theorem nd_elem {e tS tL tI : TypeId} {n0 n1 : Field} {fuel : Nat} {cs : List Value} {x : DataW H × List MemPlace} {a : Addr} (he : P.underlying e = some (.struct #[n0, n1])) (h0 : n0.offset = 0 ∧ n0.type = tS) (h1 : n1.offset = 1 ∧ n1.type = tL)
    (hS : P.underlying tS = some .string) (hL : P.underlying tL = some (.slice tI)) (hI : P.underlying tI = some (.int .i64)) (h2 : P.cellsOf e = 2) (k9 : P.cellsOf tS = 1) (kS : P.cellsOf tL = 1) (kI : P.cellsOf tI = 1)
    (hc : w.cells? 0 a (P.cellsOf e) = some cs) (h : DataW.trod enc P w 0 (fun _ => true) true fuel e cs = some x) :
    ∃ y : Nd, y.fits ∧ ∃ T c, w.cell? a = some (.string y.name) ∧ w.cell? (a.add 1) = some (.slice T y.terms.length c) ∧ RdT w w.heap.size T c y.terms := by
  rw [h2] at hc
  obtain ⟨_, hcl, hat⟩ := World.cells?_some hc
  obtain ⟨xs, n, _, _, _, hlen, hg⟩ := DataW.trod_struct he h
  match cs, hcl with
  | [v0, v1], _ =>
    have g0 := hg 0 n0 rfl
    have g1 := hg 1 n1 rfl
    rw [h0.1, h0.2, k9] at g0
    rw [h1.1, h1.2, kS] at g1
    simp only [List.drop_zero, List.drop_succ_cons, List.take_succ_cons, List.take_zero] at g0 g1
    have hl0 : 0 < xs.length := by rw [hlen]; simp
    have hl1 : 1 < xs.length := by rw [hlen]; simp
    rw [List.getElem?_eq_getElem hl0] at g0
    rw [List.getElem?_eq_getElem hl1] at g1
    obtain ⟨s, e0, _, ws⟩ := DataW.trod_string hS g0
    obtain ⟨T, l, c, zs, e1, hr⟩ := isRow_of hL hI kI g1
    obtain ⟨r1, r2, r3, _⟩ := hr.rd
    simp only [List.cons.injEq, and_true] at e0 e1
    subst e0 e1
    have a0 := hat 0 (by omega)
    have a1 := hat 1 (by omega)
    have ea : a.add 0 = a := by simp [Addr.add]
    rw [ea] at a0
    exact ⟨⟨s, zs.take l⟩, ⟨ws, by show (zs.take l).length ≤ _; omega⟩, T, c, a0, by show w.cell? (a.add 1) = some (.slice T (zs.take l).length c); rw [r1]; exact a1, r3, by rw [r1]; exact hr.cap.1, hr.cap.2⟩

theorem isNd_of' {t e tS tL tI : TypeId} {n0 n1 : Field} {fuel : Nat} {cs : List Value} {x : DataW H × List MemPlace} (ht : P.underlying t = some (.slice e)) (he : P.underlying e = some (.struct #[n0, n1])) (h0 : n0.offset = 0 ∧ n0.type = tS) (h1 : n1.offset = 1 ∧ n1.type = tL)
    (hS : P.underlying tS = some .string) (hL : P.underlying tL = some (.slice tI)) (hI : P.underlying tI = some (.int .i64)) (h2 : P.cellsOf e = 2) (k9 : P.cellsOf tS = 1) (kS : P.cellsOf tL = 1) (kI : P.cellsOf tI = 1)
    (hf : DataW.trod enc P w 0 (fun _ => true) true fuel t cs = some x) : ∃ A l c zs, cs = [Value.slice A l c] ∧ IsNd w A l zs := by
  rcases Deep.open_slice ht hf with ⟨rfl, _⟩ | ⟨a, len, cap, m, n, D, Pl, rfl, _, hl, hm, hmm, _, hi⟩
  · exact ⟨none, 0, 0, [], rfl, rfl, Nat.zero_le _, fun x hx => absurd hx (by simp), fun h => absurd h (by simp)⟩
  · simp only [if_true] at hmm
    have each : ∀ i, i < len → ∃ y : Nd, y.fits ∧ ∃ T c, w.cell? (a.add (i * 2)) = some (.string y.name) ∧ w.cell? ((a.add (i * 2)).add 1) = some (.slice T y.terms.length c) ∧ RdT w w.heap.size T c y.terms := fun i h => by
      obtain ⟨cs', hc, ht'⟩ := hi i (by omega)
      have := nd_elem he h0 h1 hS hL hI h2 k9 kS kI hc ht'
      rwa [h2] at this
    obtain ⟨y, hy⟩ := Deep.choose_lt each
    refine ⟨some a, len, cap, (List.range len).map y, rfl, by simp, by omega, fun x hx => ?_, fun hp => ?_⟩
    · obtain ⟨i, hi, rfl⟩ := List.mem_map.1 hx
      exact (hy i (List.mem_range.1 hi)).1
    · rw [List.length_map, List.length_range] at hp
      obtain ⟨_, T, c, h0, _⟩ := hy 0 hp
      have ea : a.add (0 * 2) = a := by simp [Addr.add]
      rw [ea] at h0
      obtain ⟨b, off, rfl, hb⟩ := cell_plain h0
      refine ⟨b, off, rfl, hb, fun j x hx => ?_⟩
      rw [List.getElem?_map] at hx
      obtain ⟨k, hk, rfl⟩ := Option.map_eq_some_iff.1 hx
      obtain ⟨hk1, hk2⟩ := List.getElem?_eq_some_iff.1 hk
      rw [List.getElem_range] at hk2
      subst hk2
      rw [List.length_range] at hk1
      obtain ⟨_, T, c, e0, e1, e2⟩ := hy j hk1
      rw [add_plain] at e0 e1
      rw [add_plain] at e1
      exact ⟨T, c, e0, e1, e2⟩

/-- A struct of one cell. -/
theorem open_one {r : Reach} {b0 : Nat} {t : TypeId} {f : Field} {v : Value} {d : DataW H} {p : List MemPlace} (ht : P.underlying t = some (.struct #[f])) (h0 : f.offset = 0) (h1 : P.cellsOf t = 1) (k1 : P.cellsOf f.type = 1)
    (hv : Value.okWide P w r b0 t v) (h : DataW.Trod enc P w 0 (fun _ => true) true t v d p) : ∃ u n y, v = .agg #[u] ∧ DataW.trod enc P w 0 (fun _ => true) true n f.type [u] = some y := by
  obtain ⟨cs, rfl, hsz⟩ := okWide_struct ht hv
  obtain ⟨cl⟩ := cs
  rw [h1] at hsz
  match cl, hsz with
  | [v0], _ =>
    obtain ⟨fuel, hf⟩ := h
    obtain ⟨xs, n, _, _, _, hlen, hg⟩ := DataW.trod_struct ht hf
    have g0 := hg 0 f rfl
    have hl0 : 0 < xs.length := by rw [hlen]; simp
    rw [List.getElem?_eq_getElem hl0, h0, k1] at g0
    simp only [Value.cells, List.drop_zero, List.take_succ_cons, List.take_zero] at g0
    exact ⟨v0, n, _, rfl, g0⟩
end

section
variable {H : Type} {enc : TypeId × Value → H} {w : World}
end
end Go.Proofs.YtmgfceiomfiknaaDoor
