/- Slices of notes: how they read; the statements' own measuring, copying and comparing of them. No condition but those that each theorem names. -/
import Derived.Test.YtaajdkgcfoppeaaDoorNamed
import Derived.Test.YtaajdkgcfoppeaaDoorFracW
import Derived.Test.YtaajdkgcfoppeaaDoorErrW
import Derived.Test.YtaajdkgcfoppeaaDoorPutL
namespace Go.Proofs.YtaajdkgcfoppeaaDoor
open Go.RowKit Go.Sort

/-- A note. -/
structure Nt where
  name : ByteArray
  kind : Int
  num : Int
  den : Int
  terms : List Int
  sp : Int
  sd : Int
  sq : Int
instance : Inhabited Nt := ⟨⟨ByteArray.empty, 0, 0, 0, [], 0, 0, 0⟩⟩
def Nt.sz (x : Nt) : Nat := x.name.size + x.terms.length
def ntTot (xs : List Nt) : Nat := (xs.map Nt.sz).sum
def Nt.fits (x : Nt) : Prop := x.name.size ≤ maxLen ∧ x.terms.length ≤ maxLen
def ntC (x : Nt) (T : Option Addr) (c : Nat) : List Value := [.string x.name, .int .i64 x.kind, .int .i64 x.num, .int .i64 x.den, .slice T x.terms.length c, .int .i64 x.sp, .int .i64 x.sd, .int .i64 x.sq]
@[reducible] def ntV (s : ByteArray) (k n d : Int) (T : Option Addr) (l c : Nat) (p e q : Int) : Value := .agg #[.string s, .int .i64 k, .int .i64 n, .int .i64 d, .slice T l c, .int .i64 p, .int .i64 e, .int .i64 q]
@[reducible] def surdV (p d q : Int) : Value := .agg #[.int .i64 p, .int .i64 d, .int .i64 q]

theorem ntTot_snoc {xs : List Nt} {k : Nat} {x : Nt} (h : xs[k]? = some x) : ntTot (xs.take (k + 1)) = ntTot (xs.take k) + x.sz := by
  unfold ntTot
  rw [List.take_add_one, h]
  simp
theorem ntTot_take_le (xs : List Nt) (k : Nat) : ntTot (xs.take k) ≤ ntTot xs := by
  have h2 := congrArg List.sum (List.take_append_drop k (xs.map Nt.sz))
  rw [List.sum_append] at h2
  unfold ntTot
  rw [List.map_take, ← h2]
  omega
theorem nt_le {xs : List Nt} {x : Nt} (h : x ∈ xs) : x.name.size + x.terms.length ≤ ntTot xs := by
  induction xs with
  | nil => cases h
  | cons y ys ih =>
    have e : ntTot (y :: ys) = y.sz + ntTot ys := by simp [ntTot]
    rw [e]
    rcases List.mem_cons.1 h with rfl | h
    · unfold Nt.sz; omega
    · have := ih h; omega

/-- Values that lie in a row of block b from o on. -/
def RowAt (w : World) (b o : Nat) (vs : List Value) : Prop := ∀ i v, vs[i]? = some v → w.cell? ⟨b, o + i, none⟩ = some v
theorem RowAt.below {w w' : World} {B b o : Nat} {vs : List Value} (h : RowAt w b o vs) (hb : Below B w w') (hlt : b < B) : RowAt w' b o vs := fun i v hv => (hb.cell (p := ⟨b, o + i, none⟩) hlt).trans (h i v hv)
/-- The eight cells of a note, one by one. -/
structure NtAt (w : World) (b o : Nat) (x : Nt) (T : Option Addr) (c : Nat) : Prop where
  c0 : w.cell? ⟨b, o, none⟩ = some (.string x.name)
  c1 : w.cell? ⟨b, o + 1, none⟩ = some (.int .i64 x.kind)
  c2 : w.cell? ⟨b, o + 2, none⟩ = some (.int .i64 x.num)
  c3 : w.cell? ⟨b, o + 3, none⟩ = some (.int .i64 x.den)
  c4 : w.cell? ⟨b, o + 4, none⟩ = some (.slice T x.terms.length c)
  c5 : w.cell? ⟨b, o + 5, none⟩ = some (.int .i64 x.sp)
  c6 : w.cell? ⟨b, o + 6, none⟩ = some (.int .i64 x.sd)
  c7 : w.cell? ⟨b, o + 7, none⟩ = some (.int .i64 x.sq)
theorem RowAt.nt {w : World} {b o : Nat} {x : Nt} {T : Option Addr} {c : Nat} (h : RowAt w b o (ntC x T c)) : NtAt w b o x T c :=
  ⟨h 0 _ rfl, h 1 _ rfl, h 2 _ rfl, h 3 _ rfl, h 4 _ rfl, h 5 _ rfl, h 6 _ rfl, h 7 _ rfl⟩

def RdNt (w : World) (B : Nat) (A : Option Addr) (xs : List Nt) : Prop :=
  0 < xs.length → ∃ b off, A = some ⟨b, off, none⟩ ∧ b < B ∧ ∀ j x, xs[j]? = some x → ∃ T c, RowAt w b (off + j * 8) (ntC x T c) ∧ RdT w B T c x.terms
section
variable {w w' : World} {B B' : Nat} {A : Option Addr} {xs : List Nt}
theorem RdNt.below (h : RdNt w B A xs) (hb : Below B w w') : RdNt w' B A xs := fun hn => by
  obtain ⟨b, off, e, hlt, hc⟩ := h hn
  refine ⟨b, off, e, hlt, fun j x hx => ?_⟩
  obtain ⟨T, c, h1, h3⟩ := hc j x hx
  exact ⟨T, c, h1.below hb hlt, h3.below hb⟩
theorem RdNt.more (h : RdNt w B A xs) (hB : B ≤ B') : RdNt w B' A xs := fun hn => by
  obtain ⟨b, off, e, hlt, hc⟩ := h hn
  refine ⟨b, off, e, by omega, fun j x hx => ?_⟩
  obtain ⟨T, c, h1, h3⟩ := hc j x hx
  exact ⟨T, c, h1, h3.more hB⟩
theorem RdNt.next (h : RdNt w w.heap.size A xs) (hb : Below w.heap.size w w') : RdNt w' w'.heap.size A xs := (h.below hb).more hb.size
end
def WrNt (w : World) (base : Nat) (A : Option Addr) (xs : List Nt) : Prop :=
  0 < xs.length → ∃ b off, A = some ⟨b, off, none⟩ ∧ base ≤ b ∧ b < w.heap.size ∧ ∀ j x, xs[j]? = some x → ∃ T c, RowAt w b (off + j * 8) (ntC x T c) ∧ WrT w base T c x.terms
theorem WrNt.rd {w : World} {B : Nat} {A : Option Addr} {xs : List Nt} (h : WrNt w B A xs) : RdNt w w.heap.size A xs := fun hn => by
  obtain ⟨b, off, e, _, hlt, hc⟩ := h hn
  refine ⟨b, off, e, hlt, fun j x hx => ?_⟩
  obtain ⟨T, c, h1, h3⟩ := hc j x hx
  exact ⟨T, c, h1, h3.rd⟩

end Go.Proofs.YtaajdkgcfoppeaaDoor
