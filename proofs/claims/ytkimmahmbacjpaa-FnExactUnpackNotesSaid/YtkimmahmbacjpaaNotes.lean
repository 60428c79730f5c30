/- Slices of notes: how they read; the statements' own measuring, copying and comparing of them. No condition but those that each theorem names. -/
import Derived.Test.YtkimmahmbacjpaaNamed
import Derived.Test.YtkimmahmbacjpaaFracW
import Derived.Test.YtkimmahmbacjpaaErrW
import Derived.Test.YtkimmahmbacjpaaPutL
namespace Go.Proofs.Ytkimmahmbacjpaa
open Go.RowKit Go.Sort

/-- A note. -/
structure Nt where
  name : ByteArray
  kind : Int
  num : Int
  den : Int
  terms : List Int
  sp : Int
  sd : Int
  sq : Int
instance : Inhabited Nt := ⟨⟨ByteArray.empty, 0, 0, 0, [], 0, 0, 0⟩⟩
def Nt.sz (x : Nt) : Nat := x.name.size + x.terms.length
def ntTot (xs : List Nt) : Nat := (xs.map Nt.sz).sum
def Nt.fits (x : Nt) : Prop := x.name.size ≤ maxLen ∧ x.terms.length ≤ maxLen
def ntC (x : Nt) (T : Option Addr) (c : Nat) : List Value := [.string x.name, .int .i64 x.kind, .int .i64 x.num, .int .i64 x.den, .slice T x.terms.length c, .int .i64 x.sp, .int .i64 x.sd, .int .i64 x.sq]
@[reducible] def ntV (s : ByteArray) (k n d : Int) (T : Option Addr) (l c : Nat) (p e q : Int) : Value := .agg #[.string s, .int .i64 k, .int .i64 n, .int .i64 d, .slice T l c, .int .i64 p, .int .i64 e, .int .i64 q]
@[reducible] def surdV (p d q : Int) : Value := .agg #[.int .i64 p, .int .i64 d, .int .i64 q]

theorem ntTot_snoc {xs : List Nt} {k : Nat} {x : Nt} (h : xs[k]? = some x) : ntTot (xs.take (k + 1)) = ntTot (xs.take k) + x.sz := by
  unfold ntTot
  rw [List.take_add_one, h]
  simp
theorem ntTot_take_le (xs : List Nt) (k : Nat) : ntTot (xs.take k) ≤ ntTot xs := by
  have h2 := congrArg List.sum (List.take_append_drop k (xs.map Nt.sz))
  rw [List.sum_append] at h2
  unfold ntTot
  rw [List.map_take, ← h2]
  omega
theorem nt_le {xs : List Nt} {x : Nt} (h : x ∈ xs) : x.name.size + x.terms.length ≤ ntTot xs := by
  induction xs with
  | nil => cases h
  | cons y ys ih =>
    have e : ntTot (y :: ys) = y.sz + ntTot ys := by simp [ntTot]
    rw [e]
    rcases List.mem_cons.1 h with rfl | h
    · unfold Nt.sz; omega
    · have := ih h; omega

/-- Values that lie in a row of block b from o on. -/
def RowAt (w : World) (b o : Nat) (vs : List Value) : Prop := ∀ i v, vs[i]? = some v → w.cell? ⟨b, o + i, none⟩ = some v
theorem RowAt.below {w w' : World} {B b o : Nat} {vs : List Value} (h : RowAt w b o vs) (hb : Below B w w') (hlt : b < B) : RowAt w' b o vs := fun i v hv => (hb.cell (p := ⟨b, o + i, none⟩) hlt).trans (h i v hv)
/-- The eight cells of a note, one by one. -/
structure NtAt (w : World) (b o : Nat) (x : Nt) (T : Option Addr) (c : Nat) : Prop where
  c0 : w.cell? ⟨b, o, none⟩ = some (.string x.name)
  c1 : w.cell? ⟨b, o + 1, none⟩ = some (.int .i64 x.kind)
  c2 : w.cell? ⟨b, o + 2, none⟩ = some (.int .i64 x.num)
  c3 : w.cell? ⟨b, o + 3, none⟩ = some (.int .i64 x.den)
  c4 : w.cell? ⟨b, o + 4, none⟩ = some (.slice T x.terms.length c)
  c5 : w.cell? ⟨b, o + 5, none⟩ = some (.int .i64 x.sp)
  c6 : w.cell? ⟨b, o + 6, none⟩ = some (.int .i64 x.sd)
  c7 : w.cell? ⟨b, o + 7, none⟩ = some (.int .i64 x.sq)
theorem RowAt.nt {w : World} {b o : Nat} {x : Nt} {T : Option Addr} {c : Nat} (h : RowAt w b o (ntC x T c)) : NtAt w b o x T c :=
  ⟨h 0 _ rfl, h 1 _ rfl, h 2 _ rfl, h 3 _ rfl, h 4 _ rfl, h 5 _ rfl, h 6 _ rfl, h 7 _ rfl⟩

def RdNt (w : World) (B : Nat) (A : Option Addr) (xs : List Nt) : Prop :=
  0 < xs.length → ∃ b off, A = some ⟨b, off, none⟩ ∧ b < B ∧ ∀ j x, xs[j]? = some x → ∃ T c, RowAt w b (off + j * 8) (ntC x T c) ∧ RdT w B T c x.terms
section
variable {w w' : World} {B B' : Nat} {A : Option Addr} {xs : List Nt}
theorem RdNt.below (h : RdNt w B A xs) (hb : Below B w w') : RdNt w' B A xs := fun hn => by
  obtain ⟨b, off, e, hlt, hc⟩ := h hn
  refine ⟨b, off, e, hlt, fun j x hx => ?_⟩
  obtain ⟨T, c, h1, h3⟩ := hc j x hx
  exact ⟨T, c, h1.below hb hlt, h3.below hb⟩
theorem RdNt.more (h : RdNt w B A xs) (hB : B ≤ B') : RdNt w B' A xs := fun hn => by
  obtain ⟨b, off, e, hlt, hc⟩ := h hn
  refine ⟨b, off, e, by omega, fun j x hx => ?_⟩
  obtain ⟨T, c, h1, h3⟩ := hc j x hx
  exact ⟨T, c, h1, h3.more hB⟩
theorem RdNt.next (h : RdNt w w.heap.size A xs) (hb : Below w.heap.size w w') : RdNt w' w'.heap.size A xs := (h.below hb).more hb.size
end
def WrNt (w : World) (base : Nat) (A : Option Addr) (xs : List Nt) : Prop :=
  0 < xs.length → ∃ b off, A = some ⟨b, off, none⟩ ∧ base ≤ b ∧ b < w.heap.size ∧ ∀ j x, xs[j]? = some x → ∃ T c, RowAt w b (off + j * 8) (ntC x T c) ∧ WrT w base T c x.terms
theorem WrNt.rd {w : World} {B : Nat} {A : Option Addr} {xs : List Nt} (h : WrNt w B A xs) : RdNt w w.heap.size A xs := fun hn => by
  obtain ⟨b, off, e, _, hlt, hc⟩ := h hn
  refine ⟨b, off, e, hlt, fun j x hx => ?_⟩
  obtain ⟨T, c, h1, h3⟩ := hc j x hx
  exact ⟨T, c, h1, h3.rd⟩

theorem eqSurd_any (p d q : Int) (w : World) :
    Calls Try.prog 60 #[surdV p d q, surdV p d q] w fun e w' => e = .returned (.bool true) ∧ Below w.heap.size w w' := by
  unfold surdV
  go_enter Try.func60, Try.ntmps60
  go_wp2
  go_ret
  exact ⟨rfl, ext_alloc (ext_alloc (Below.refl _ _) _) _⟩

set_option maxHeartbeats 1000000 in
theorem eqNote_any (x : Nt) (A B : Option Addr) (c d : Nat) (w : World) (hx : Rd (Value.int .i64) w w.heap.size A x.terms) (hy : Rd (Value.int .i64) w w.heap.size B x.terms) (hm : x.terms.length ≤ maxLen) :
    Calls Try.prog 27 #[ntV x.name x.kind x.num x.den A x.terms.length c x.sp x.sd x.sq, ntV x.name x.kind x.num x.den B x.terms.length d x.sp x.sd x.sq] w fun e w' => e = .returned (.bool true) ∧ Below w.heap.size w w' := by
  have HX : Hid (∀ W, Below w.heap.size w W → Rd (Value.int .i64) W W.heap.size A x.terms) := fun W hb => (hx.below hb).more hb.size
  have HY : Hid (∀ W, Below w.heap.size w W → Rd (Value.int .i64) W W.heap.size B x.terms) := fun W hb => (hy.below hb).more hb.size
  clear hx hy
  generalize x.name = s at *
  generalize x.kind = k at *
  generalize x.num = n at *
  generalize x.den = m at *
  generalize x.sp = p at *
  generalize x.sd = f at *
  generalize x.sq = q at *
  generalize x.terms = xs at *
  unfold ntV
  go_enter Try.func27, Try.ntmps27
  go_wp2_with fail
  refine (eqFraction_any n m _).mono ?_
  rintro e w1 ⟨rfl, hb1⟩
  have E1 : Below w.heap.size w w1 := ext_trans (ext_alloc (ext1 _ _) _) hb1
  obtain ⟨hc1, hf1⟩ := bcell hb1
  have hy1 := hb1.size
  (try simp at hy1)
  have hz0 : w.heap.size < w1.heap.size := by omega
  have hz1 : w.heap.size + 1 < w1.heap.size := by omega
  go_wp2_with fail
  refine (eqInt64S_any A B c d xs xs _ (HX.out _ E1) (HY.out _ E1) hm hm).mono ?_
  rintro e w2 ⟨rfl, hb2⟩
  obtain ⟨hc2, hf2⟩ := bcell hb2
  have E2 := ext_trans E1 hb2
  have hy2 := hb2.size
  go_wp2_with fail
  refine (eqSurd_any p f q _).mono ?_
  rintro e w3 ⟨rfl, hb3⟩
  go_wp2
  go_ret
  exact ⟨rfl, ext_trans E2 hb3⟩

set_option maxHeartbeats 1000000 in
theorem eqNoteS_any (A B : Option Addr) (c d : Nat) (xs : List Nt) (w : World) (hx : RdNt w w.heap.size A xs) (hy : RdNt w w.heap.size B xs) (hf : ∀ x ∈ xs, x.terms.length ≤ maxLen) (hl : xs.length ≤ 1048576) :
    Calls Try.prog 7 #[.slice A xs.length c, .slice B xs.length d] w fun e w' => e = .returned (.bool true) ∧ Below w.heap.size w w' := by
  have HF := Lib.hid hf
  clear hf
  have hl0 : ((xs.length : Int) != (xs.length : Int)) = false := by simp
  go_enter Try.func7, Try.ntmps7
  go_wp2_with fail
  go_loopw [5] (fun t wr => ∃ k : Nat, k ≤ xs.length ∧ t = .int .i64 k ∧ Below w.heap.size w wr) (fun t _ => xs.length - (intOf t).toNat)
  case atStart => exact ⟨0, by omega, rfl, Below.refl _ _⟩
  case round =>
    obtain ⟨k, hk, rfl, hbe⟩ := hrel
    by_cases hlt : k < xs.length
    · obtain ⟨b, off, rfl, hb, hc⟩ := (hx.next hbe) (by omega)
      obtain ⟨b', off', rfl, hb', hc'⟩ := (hy.next hbe) (by omega)
      obtain ⟨x, hxk⟩ : ∃ x, xs[k]? = some x := ⟨_, List.getElem?_eq_getElem hlt⟩
      obtain ⟨T, ct, cr, cT⟩ := hc k x hxk
      obtain ⟨T', ct', dr, dT⟩ := hc' k x hxk
      have HC := Lib.hid (fun W hb => eqNote_any x T T' ct ct' W (cT.1.next (w' := W) hb) (dT.1.next hb) (HF.out x (List.mem_of_getElem? hxk)))
      obtain ⟨c0, c1, c2, c3, c4, c5, c6, c7⟩ := cr.nt
      obtain ⟨d0, d1, d2, d3, d4, d5, d6, d7⟩ := dr.nt
      clear hc hc' hxk cr dr cT dT
      have i0 : (0 : Int) ≤ (k : Int) := by omega
      have i1 : (k : Int) < (xs.length : Int) := by omega
      have k0 : ∀ x os, (grow (redrawn wr x) os).cell? _ = _ := cell_regrown c0
      have k1 : ∀ x os, (grow (redrawn wr x) os).cell? _ = _ := cell_regrown c1
      have k2 : ∀ x os, (grow (redrawn wr x) os).cell? _ = _ := cell_regrown c2
      have k3 : ∀ x os, (grow (redrawn wr x) os).cell? _ = _ := cell_regrown c3
      have k4 : ∀ x os, (grow (redrawn wr x) os).cell? _ = _ := cell_regrown c4
      have k5 : ∀ x os, (grow (redrawn wr x) os).cell? _ = _ := cell_regrown c5
      have k6 : ∀ x os, (grow (redrawn wr x) os).cell? _ = _ := cell_regrown c6
      have k7 : ∀ x os, (grow (redrawn wr x) os).cell? _ = _ := cell_regrown c7
      have l0 : ∀ x os, (grow (redrawn wr x) os).cell? _ = _ := cell_regrown d0
      have l1 : ∀ x os, (grow (redrawn wr x) os).cell? _ = _ := cell_regrown d1
      have l2 : ∀ x os, (grow (redrawn wr x) os).cell? _ = _ := cell_regrown d2
      have l3 : ∀ x os, (grow (redrawn wr x) os).cell? _ = _ := cell_regrown d3
      have l4 : ∀ x os, (grow (redrawn wr x) os).cell? _ = _ := cell_regrown d4
      have l5 : ∀ x os, (grow (redrawn wr x) os).cell? _ = _ := cell_regrown d5
      have l6 : ∀ x os, (grow (redrawn wr x) os).cell? _ = _ := cell_regrown d6
      have l7 : ∀ x os, (grow (redrawn wr x) os).cell? _ = _ := cell_regrown d7
      clear c0 c1 c2 c3 c4 c5 c6 c7 d0 d1 d2 d3 d4 d5 d6 d7
      go_wp2_with fail
      refine wp_region_quiet_below (by kernel_rfl) (by kernel_rfl) ?_
      repeat (first | go_big_quiet_step ((with_reducible exact Calls.regrown_of (HC.out _ (below_regrown _ _ _)))) | quiet_step ((with_reducible exact Calls.regrown_of (HC.out _ (below_regrown _ _ _)))))
      refine wpQuiet_nil ?_
      intro _ hw'
      obtain ⟨⟨dq, oq⟩, hw''⟩ := hw'
      subst hw''
      clear k0 k1 k2 k3 k4 k5 k6 k7 l0 l1 l2 l3 l4 l5 l6 l7
      go_wp2
      go_roundw
      case rel => exact ⟨k + 1, by omega, by go_num, ext_trans hbe (below_regrown _ _ _)⟩
      case measure => simp [intOf]; omega
    · go_wp2
      go_ret
      exact ⟨rfl, hbe⟩
end Go.Proofs.Ytkimmahmbacjpaa
