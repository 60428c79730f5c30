/- Parts of the proof, merged: Join Frame BytesW AkW. No condition but those that each theorem names. -/
import Derived.Test.YtjgafjbccfjojaaGreatRows
import Derived.JoinedOf
import Derived.Test.YtjgafjbccfjojaaGreatMgAA
import Derived.ProofKit
import Derived.OpenShut
import Derived.ShutString
import Derived.ChangeOld
import Derived.Lib.SmallJoins
import Derived.Test.YtjgafjbccfjojaaGreatMgAT
import Derived.Test.YtjgafjbccfjojaaGreatMgAX
import Derived.Deep.RegionHeld3
namespace Go.Proofs.YtjgafjbccfjojaaGreat
theorem frLaid : laidOutB Tryz.prog = true := by kernel_rfl
theorem frRowed : mapsRowed Tryz.prog = true := by kernel_rfl
theorem frKeys : Tryz.prog.plainKeys = true := by kernel_rfl
theorem frHeard : Tryz.prog.stopsHeard = true := by kernel_rfl
theorem frEnter : Tryz.prog.mayEnter = true := by kernel_rfl
theorem frLift : (({ program := "", sum := "", func := "", spec := "" } : OpenClaim).lifted == Tryz.prog.liftsFinal) = true := by kernel_rfl
theorem frMake : (Tryz.prog.make == some ({ program := "", sum := "", func := "", spec := "" } : OpenClaim).make) = true := by kernel_rfl
theorem frStops : (Tryz.prog.stops == []) = true := by kernel_rfl
theorem frKnobs : (Tryz.prog.stopKnobs == []) = true := by kernel_rfl
theorem joined_of {f : FuncId} {fn : Func} {s : ChangeSpec} {c : OpenClaim} (a1 : c.wf (OpenSpec.ofChange s) = true) (a2 : fn.params.all (Tryz.prog.readableRec ·) = true) (a3 : namedTie Tryz.prog c.named s.vars = true)
    (a4 : (c.stops == []) = true) (a5 : (c.knobs == []) = true) (a6 : (c.inPlace == Tryz.prog.inPlace f) = true) (a7 : (c.unfollowed == Tryz.prog.unfollowed f) = true) (a8 : (c.recurses == Tryz.prog.recurses f) = true) (a9 : (c.named == Tryz.prog.varsNamed f) = true)
    (a10 : (c.maps == (fn.params.toList ++ s.plain.varTypes Tryz.prog).any (Tryz.prog.mapsRec ·)) = true) (a11 : (c.ifaces == (fn.params.toList ++ s.plain.varTypes Tryz.prog).any (Tryz.prog.ifacesRec ·)) = true) (a12 : (c.mapsOut == Tryz.prog.mapsAmong fn.resultTypes.toList) = true)
    (a13 : (c.loops == (fn.params.toList ++ s.plain.varTypes Tryz.prog).any (Tryz.prog.loopsFrom ·)) = true) (a14 : (c.wideKeys == (fn.params.toList ++ s.plain.varTypes Tryz.prog ++ fn.resultTypes.toList).any (Tryz.prog.wideKeysFrom ·)) = true)
    (a15 : s.vars.all (Tryz.prog.varReadable ·) = true) (a16 : fn.resultTypes.all (fun t => Tryz.prog.readableRec t && decide (t < Tryz.prog.types.size)) = true) (a17 : (c.ifacesOut == fn.resultTypes.toList.any (Tryz.prog.ifacesRec ·)) = true) (a18 : (c.loopsOut == fn.resultTypes.toList.any (Tryz.prog.loopsFrom ·)) = true)
    (a19 : c.plainKeys = true) (a20 : c.shortTexts.isNone = true) (a21 : c.lifted = ({ program := "", sum := "", func := "", spec := "" } : OpenClaim).lifted) (a22 : c.make = ({ program := "", sum := "", func := "", spec := "" } : OpenClaim).make)
    (a23 : c.kinds = []) (a23' : c.domain = []) (a24 : (c.pinned == c.pinnedBy) = true)
    (a25 : (c.veiled == (fn.params.toList ++ s.plain.varTypes Tryz.prog ++ fn.resultTypes.toList).any (Tryz.prog.veiledRec ·)) = true) (a26 : c.veiledFits Tryz.prog fn.params.toList (fn.params.toList ++ s.plain.varTypes Tryz.prog ++ fn.resultTypes.toList) = true) :
    joinedFacts Tryz.prog f fn s c = true := by
  have b19 : (c.plainKeys == Tryz.prog.plainKeys) = true := by rw [a19, frKeys]; rfl
  have b21 : (c.lifted == Tryz.prog.liftsFinal) = true := by rw [a21]; exact frLift
  have b22 : (Tryz.prog.make == some c.make) = true := by rw [a22]; exact frMake
  unfold joinedFacts
  rw [a1, frLaid, frRowed, a2, a3, a4, frStops, a5, frKnobs, a6, a7, a8, a9, a10, a11, a12, a13, a14, a15, a16, a17, a18, b19, a20, frHeard, frEnter, b21, b22, a23, a23', a24, a25, a26]
  rfl
end Go.Proofs.YtjgafjbccfjojaaGreat
namespace Go.Proofs.YtjgafjbccfjojaaGreat
open Go.ChangeShapes Go.WideShapes Go.ChangeAt Go.RowKit
/-- What a walk is told of a slice of integers that came in: it is nil; or it leads to a row of 'cap' cells, the numbers 'zs' (the first 'len' are its elements). -/
def IsRow (k : IntKind) (w : World) (a : Option Addr) (len cap : Nat) (zs : List Int) : Prop :=
  (a = none ∧ len = 0 ∧ cap = 0 ∧ zs = []) ∨
  ∃ x, a = some x ∧ len ≤ cap ∧ cap ≤ maxLen ∧ zs.length = cap ∧ (∀ i, i < zs.length → w.cell? (x.add i) = some (.int k (zs.getD i 0))) ∧ ∀ n ∈ zs, (Lit.int k n).wf = true
section
variable {H : Type} {enc : TypeId × Value → H} {P : Program} {w : World}
theorem isRow_of {t e : TypeId} {k : IntKind} {fuel : Nat} {cs : List Value} {x : DataW H × List MemPlace} (ht : P.underlying t = some (.slice e)) (he : P.underlying e = some (.int k)) (hc : P.cellsOf e = 1)
    (hf : DataW.trod enc P w 0 (fun _ => true) true fuel t cs = some x) : ∃ A l c zs, cs = [Value.slice A l c] ∧ IsRow k w A l c zs := by
  rcases open_ints ht he hc hf with ⟨hcs, _⟩ | ⟨x, l, c, zs, hcs, _, hl, hm, hz, _, hcell, hwz⟩
  · exact ⟨none, 0, 0, [], hcs, .inl ⟨rfl, rfl, rfl, rfl⟩⟩
  · exact ⟨some x, l, c, zs, hcs, .inr ⟨_, rfl, hl, hm, by simpa using hz, hcell, hwz⟩⟩
theorem isRow_arg {t e : TypeId} {k : IntKind} {A : Option Addr} {l c : Nat} {d : DataW H} {ps : List MemPlace} (ht : P.underlying t = some (.slice e)) (he : P.underlying e = some (.int k)) (hc : P.cellsOf e = 1)
    (h : DataW.Trod enc P w 0 (fun _ => true) true t (.slice A l c) d ps) : ∃ zs, IsRow k w A l c zs := by
  obtain ⟨fuel, hf⟩ := h
  obtain ⟨A', l', c', zs, hcs, hr⟩ := isRow_of ht he hc hf
  simp [Value.cells] at hcs
  obtain ⟨rfl, rfl, rfl⟩ := hcs
  exact ⟨zs, hr⟩
end
theorem cell_plain {w : World} {x : Addr} {v : Value} (h : w.cell? x = some v) : ∃ b off, x = ⟨b, off, none⟩ ∧ b < w.heap.size := by
  obtain ⟨b, off, spot⟩ := x
  have hlt := block_lt_of_cell h
  cases spot with
  | none => exact ⟨b, off, rfl, hlt⟩
  | some s =>
    exfalso
    simp only [World.cell?] at h
    split at h
    · simp at h
    · cases h
end Go.Proofs.YtjgafjbccfjojaaGreat
namespace Go.Proofs.YtjgafjbccfjojaaGreat
open Go.RowKit Go.Sort Go.ChangeShapes Go.WideShapes Go.ChangeAt
theorem IsRow.rdU {w : World} {A : Option Addr} {l c : Nat} {zs : List Int} (h : IsRow .u8 w A l c zs) : (zs.take l).length = l ∧ Rd (Value.int .u8) w w.heap.size A (zs.take l) ∧ ∀ n ∈ zs.take l, (Lit.int .u8 n).wf = true := by
  rcases h with ⟨rfl, rfl, rfl, rfl⟩ | ⟨x, rfl, hl, hm, hz, hc, hw⟩
  · exact ⟨rfl, fun h => absurd h (by simp), fun n hn => absurd hn (by simp)⟩
  · have hlen : (zs.take l).length = l := by rw [List.length_take]; omega
    refine ⟨hlen, fun hp => ?_, fun n hn => hw n (List.mem_of_mem_take hn)⟩
    obtain ⟨b, off, e, hb⟩ := cell_plain (hc 0 (by omega))
    have ex : x = ⟨b, off, none⟩ := by
      have : x.add 0 = x := by simp [Addr.add]
      rw [← this]; exact e
    subst ex
    refine ⟨b, off, rfl, hb, fun j y hy => ?_⟩
    have hj : j < zs.length := by
      have := (List.getElem?_eq_some_iff.1 hy).1
      omega
    have hcj := hc j hj
    have ea : (⟨b, off, none⟩ : Addr).add j = ⟨b, off + j, none⟩ := by
      unfold Addr.add
      by_cases hj : j = 0 <;> simp [hj]
    rw [ea] at hcj
    rw [hcj]
    have hy' : zs[j]? = some y := by
      rw [List.getElem?_take] at hy
      split at hy
      · exact hy
      · cases hy
    simp [List.getD, hy']
theorem wf_u8 {n : Int} (h : (Lit.int .u8 n).wf = true) : 0 ≤ n ∧ n ≤ 255 := by
  have h2 : (decide (IntKind.min .u8 ≤ n) && decide (n ≤ IntKind.max .u8)) = true := h
  rw [Bool.and_eq_true, decide_eq_true_iff, decide_eq_true_iff, show IntKind.min .u8 = 0 by decide, show IntKind.max .u8 = 255 by decide] at h2
  exact h2
theorem IsRow.bytes {w : World} {A : Option Addr} {l c : Nat} {zs : List Int} (h : IsRow .u8 w A l c zs) (hl : l ≤ 1000000) : Bytes w A l := by
  obtain ⟨h1, h2, h3⟩ := h.rdU
  exact ⟨_, h2, h1, hl, fun x hx => wf_u8 (h3 x hx)⟩
end Go.Proofs.YtjgafjbccfjojaaGreat
namespace Go.Proofs.YtjgafjbccfjojaaGreat
open Go.RowKit Go.Sort
set_option maxHeartbeats 1000000 in
theorem l16DrawBase_any (g B N : Nat) (w : World) (h : Src g B N w) (hN : N ≤ 900000) :
    Calls Tryz.prog 32 #[.pointer (some ⟨g, 0, none⟩)] w (RetA g B (N + 4) w) := by
  have hg := h.lt
  have HS := Lib.hid h
  clear h
  go_enter Tryz.func32, Tryz.ntmps32
  go_wp2_with fail
  refine (srcOne_any g B N 12 _ HS.out (by omega) (by omega)).mono ?_
  rintro e w1 ⟨b, rfl, S1, K1⟩
  have hg1 : g < w1.heap.size := S1.lt
  cases b
  · go_wp2_with fail
    refine (srcAmong_any g B _ _ _ [10, 10, 2, 3, 12, 16] _ (S1.next (ext1 _ _)) (by omega) (rd_lit _ _ _ _ rfl) (fun b o e => by injection e with e; injection e; omega) (by simp) (by simp)).mono ?_
    rintro e w2 ⟨x, hx, rfl, S2, K2⟩
    go_wp2
    go_ret
    exact ⟨_, rfl, S2.more (by omega), K1.trans ((Keep.of (ext1 _ _) hg1).trans K2)⟩
  · go_wp2_with fail
    refine (srcAmong_any g B _ _ _ [-1, 1, 2, 36, 37] _ (S1.next (ext1 _ _)) (by omega) (rd_lit _ _ _ _ rfl) (fun b o e => by injection e with e; injection e; omega) (by simp) (by simp)).mono ?_
    rintro e w2 ⟨x, hx, rfl, S2, K2⟩
    go_wp2
    go_ret
    exact ⟨_, rfl, S2.more (by omega), K1.trans ((Keep.of (ext1 _ _) hg1).trans K2)⟩
/-- The state of a draw that asks for a source: the result's box, the source of numbers behind it, the source's box. -/
structure SA (N b : Nat) (s : So) (v1 v2 v3 : Value) (w W : World) : Prop where
  src : Src (w.heap.size + 1) (w.heap.size + 1) N W
  r : BoxV w.heap.size [.slice none 0 0, .slice none 0 0, .slice none 0 0] W
  bel : Below w.heap.size w W
  x : BoxV b [v1, v2, v3] W
  o : Own3 W (w.heap.size + 1 + 1) v1 v2 v3 s
  hb : w.heap.size + 1 < b
section
variable {N M b : Nat} {s : So} {v1 v2 v3 : Value} {w W W' : World}
theorem SA.kept (t : SA N b s v1 v2 v3 w W) (hs : Src (w.heap.size + 1) (w.heap.size + 1) M W') (h : Keep (w.heap.size + 1) W W') : SA M b s v1 v2 v3 w W' :=
  ⟨hs, t.r.keepK h (by omega), t.bel.trans (h.1.mono (by omega)), t.x.keepK h (by have := t.hb; omega), t.o.kept h (by omega), t.hb⟩
theorem SA.fin (t : SA N b s v1 v2 v3 w W) (a0 a1 a2 : Value) :
    let Z := ((W.setCell ⟨w.heap.size, 0, none⟩ a0).setCell ⟨w.heap.size, 1, none⟩ a1).setCell ⟨w.heap.size, 2, none⟩ a2
    Own3 Z (w.heap.size + 1) v1 v2 v3 s ∧ Below w.heap.size w Z :=
  ⟨(((t.o.low (by omega)).low (by omega)).low (by omega)).more (by omega), ext_set (ext_set (ext_set t.bel (Nat.le_refl _) _) (Nat.le_refl _) _) (Nat.le_refl _) _⟩
end
/-- What a draw returns: a source and two numbers. -/
def RetAk (w : World) (e : Ending) (w' : World) : Prop := ∃ (s : So) (A1 : Option Addr) (c1 : Nat) (A2 : Option Addr) (c2 : Nat) (A3 : Option Addr) (c3 : Nat) (p q : Int), e = .returned (.tuple #[souV A1 s.hd.length c1 A2 s.pd.length c2 A3 s.gr.length c3, .int .i64 p, .int .i64 q]) ∧
  Own3 w' (w.heap.size + 1) (.slice A1 s.hd.length c1) (.slice A2 s.pd.length c2) (.slice A3 s.gr.length c3) s ∧ (s.hd.length ≤ 31 ∧ s.pd.length ≤ 31 ∧ s.gr.length ≤ 31) ∧ Below w.heap.size w w'
set_option maxRecDepth 100000 in
set_option maxHeartbeats 4000000 in
theorem l16Ask_any (A : Option Addr) (n c : Nat) (w : World) (h : Bytes w A n) :
    Calls Tryz.prog 21 #[.slice A n c] w (RetAk w) := by
  have H := Lib.hid h
  clear h
  go_enter Tryz.func21, Tryz.ntmps21
  go_wp2_with fail
  refine (l00From_bytes A n c _ (H.out.next (ext1 _ _))).mono ?_
  rintro e w1 ⟨rfl, S1, hb1⟩
  have R1 := Lib.hid ((BoxV.new w #[.slice none 0 0, .slice none 0 0, .slice none 0 0] 26).next hb1)
  have B1 := Lib.hid (ext_trans (ext1 w (.cells #[.slice none 0 0, .slice none 0 0, .slice none 0 0] 26)) hb1)
  simp only [World.size_alloc] at S1 ⊢
  have HS1 := Lib.hid S1
  clear S1 hb1
  go_wp2_with fail
  refine (l15Bent_any _ _ _ _ HS1.out (by omega)).mono ?_
  rintro e w2 ⟨⟨hd, pd, gr⟩, v1, v2, v3, rfl, ho, hl, S2, K2⟩
  have hlt1 := HS1.out.lt
  have h2z := S2.lt
  have T0 : Hid (∀ T, SA (0 + 200) w2.heap.size ⟨hd, pd, gr⟩ v1 v2 v3 w (w2.alloc (.cells #[v1, v2, v3] T))) := fun T =>
    ⟨S2.next (ext1 _ _), (R1.out.keepK K2 (by omega)).next (ext1 _ _), ext_trans (B1.out.trans (K2.1.mono (by omega))) (ext1 _ _), BoxV.new w2 #[v1, v2, v3] T, (ho.more (by omega)).next (ext1 _ _), h2z⟩
  have HL := Lib.hid hl
  obtain ⟨A1, c1, rfl⟩ : ∃ A c, v1 = .slice A hd.length c := own_slice ho.o1
  obtain ⟨A2, c2, rfl⟩ : ∃ A c, v2 = .slice A pd.length c := own_slice ho.o2
  obtain ⟨A3, c3, rfl⟩ : ∃ A c, v3 = .slice A gr.length c := own_slice ho.o3
  have T := Lib.hid (T0.out 26)
  clear ho hl S2 K2 R1 B1 HS1 T0 hlt1
  go_wp2_with fail
  generalize w2.alloc (.cells #[.slice A1 hd.length c1, .slice A2 pd.length c2, .slice A3 gr.length c3] 26) = W2 at *
  generalize w2.heap.size = b at *
  refine (l16DrawBase_any _ _ _ _ T.out.src (by omega)).mono ?_
  rintro e w3 ⟨base, rfl, S3, K3⟩
  have T := Lib.hid (T.out.kept S3 K3)
  clear S3 K3
  go_wp2_with fail
  refine (srcOne_any _ _ _ 10 _ T.out.src (by omega) (by omega)).mono ?_
  rintro e w4 ⟨bb, rfl, S3, K3⟩
  have T := Lib.hid (T.out.kept S3 K3)
  clear S3 K3
  have hz4 : w.heap.size < w4.heap.size := T.out.r.lt
  have hb4 : b < w4.heap.size := T.out.x.lt
  have hne : ¬ b = w.heap.size := by have := T.out.hb; omega
  have hne' : ¬ w.heap.size = b := by have := T.out.hb; omega
  have u0 := T.out.x.at 0 _ rfl
  have u1 := T.out.x.at 1 _ rfl
  have u2 := T.out.x.at 2 _ rfl
  have r0 := T.out.r.at 0 _ rfl
  have r1 := T.out.r.at 1 _ rfl
  have r2 := T.out.r.at 2 _ rfl
  have f0 := T.out.r.f 0
  have f1 := T.out.r.f 1
  have f2 := T.out.r.f 2
  have HSC : Hid (∀ W : World, Keep (w.heap.size + 1) w4 W → W.cell? ⟨b, 0, none⟩ = some (.slice A1 hd.length c1) ∧ W.cell? ⟨b, 1, none⟩ = some (.slice A2 pd.length c2) ∧ W.cell? ⟨b, 2, none⟩ = some (.slice A3 gr.length c3)) := fun W k => by
    have X := T.out.x.keepK k (by have := T.out.hb; omega)
    exact ⟨X.at 0 _ rfl, X.at 1 _ rfl, X.at 2 _ rfl⟩
  have HST : Hid (∀ (W : World) (a0 a1 a2 : Value), (W.cell? ⟨b, 0, none⟩ = some (.slice A1 hd.length c1) ∧ W.cell? ⟨b, 1, none⟩ = some (.slice A2 pd.length c2) ∧ W.cell? ⟨b, 2, none⟩ = some (.slice A3 gr.length c3)) →
      ((((W.setCell ⟨w.heap.size, 0, none⟩ a0).setCell ⟨w.heap.size, 1, none⟩ a1).setCell ⟨w.heap.size, 2, none⟩ a2).cell? ⟨b, 0, none⟩ = some (.slice A1 hd.length c1) ∧ (((W.setCell ⟨w.heap.size, 0, none⟩ a0).setCell ⟨w.heap.size, 1, none⟩ a1).setCell ⟨w.heap.size, 2, none⟩ a2).cell? ⟨b, 1, none⟩ = some (.slice A2 pd.length c2) ∧ (((W.setCell ⟨w.heap.size, 0, none⟩ a0).setCell ⟨w.heap.size, 1, none⟩ a1).setCell ⟨w.heap.size, 2, none⟩ a2).cell? ⟨b, 2, none⟩ = some (.slice A3 gr.length c3))) := fun W a0 a1 a2 h => by
    have o : ∀ (V : World) (i j : Nat) (u : Value), (V.setCell ⟨w.heap.size, i, none⟩ u).cell? ⟨b, j, none⟩ = V.cell? ⟨b, j, none⟩ := fun V i j u => World.cell?_setCell_other _ _ _ _ (by intro e; injection e; omega)
    simp only [o]
    exact h
  have HKT : Hid (∀ (M : Nat) (W : World), Src (w.heap.size + 1) (w.heap.size + 1) M W → Keep (w.heap.size + 1) w4 W → SA M b ⟨hd, pd, gr⟩ (.slice A1 hd.length c1) (.slice A2 pd.length c2) (.slice A3 gr.length c3) w W) := fun M W hs k => T.out.kept hs k
  have HS := Lib.hid T.out.src
  have h4z := T.out.src.lt
  have K0 : Keep (w.heap.size + 1) w4 w4.drew := (Keep.refl _ _).drew
  have KA : Keep (w.heap.size + 1) w4 (w4.alloc (.cells #[.int .i64 (-1), .int .i64 0, .int .i64 30, .int .i64 31] 2)).drew := (Keep.of (ext1 _ _) h4z).drew
  have HNE : Hid (∀ b o, some (⟨w4.heap.size, 0, none⟩ : Addr) = some ⟨b, o, none⟩ → b ≠ w.heap.size + 1) := fun b o e => by
    injection e with e
    injection e with e1 e2
    have e4 : w4.heap.size = b := e1
    omega
  have HAM : Hid (Calls Tryz.prog 34 #[.pointer (some ⟨w.heap.size + 1, 0, none⟩), .slice (some ⟨w4.heap.size, 0, none⟩) 4 4] ((w4.alloc (.cells #[.int .i64 (-1), .int .i64 0, .int .i64 30, .int .i64 31] 2)).drew) (fun e w' => ∃ x, x ∈ ([-1, 0, 30, 31] : List Int) ∧ e = .returned (.int .i64 x) ∧ Src (w.heap.size + 1) (w.heap.size + 1) (0 + 200 + 4 + 2 + 2) w' ∧ Keep (w.heap.size + 1) ((w4.alloc (.cells #[.int .i64 (-1), .int .i64 0, .int .i64 30, .int .i64 31] 2)).drew) w')) :=
    srcAmong_any (w.heap.size + 1) (w.heap.size + 1) _ (some ⟨w4.heap.size, 0, none⟩) 4 [-1, 0, 30, 31] _ ((HS.out.next (ext1 w4 _)).next (ext_drew (Below.refl _ _))) (by omega) (rd_litD w4 #[.int .i64 (-1), .int .i64 0, .int .i64 30, .int .i64 31] 2 _ rfl) HNE.out (by simp) (by simp)
  have HKA := Lib.hid KA
  have HK0 := Lib.hid K0
  clear T HNE K0 KA
  cases bb
  · go_wp2_with fail
    go_region_held3 (fun W => W.cell? ⟨b, 0, none⟩ = some (.slice A1 hd.length c1) ∧ W.cell? ⟨b, 1, none⟩ = some (.slice A2 pd.length c2) ∧ W.cell? ⟨b, 2, none⟩ = some (.slice A3 gr.length c3))
      (first | with_reducible exact HSC.out _ HK0.out | with_reducible exact HSC.out _ K6 | with_reducible exact HST.out _ _ _ _ (HSC.out _ K6))
      (first | (go_at_call 35; (with_reducible refine (srcPick_any (w.heap.size + 1) (w.heap.size + 1) _ 12 _ (HS.out.next (ext_drew (Below.refl _ _))) (by omega) (by omega)).mono ?_); rintro e w6 ⟨q, q1, q2, rfl, S6, K6'⟩; have K6 := HK0.out.trans K6'; have T6 := Lib.hid (HKT.out _ _ S6 K6); have r60 := T6.out.r.at 0 _ rfl; have r61 := T6.out.r.at 1 _ rfl; have r62 := T6.out.r.at 2 _ rfl; have f60 := T6.out.r.f 0; have f61 := T6.out.r.f 1; have f62 := T6.out.r.f 2))
    all_goals
      obtain ⟨s0, s1, s2⟩ := set_three r60 r61 r62
      have HF := Lib.hid (T6.out.fin (.slice A1 hd.length c1) (.slice A2 pd.length c2) (.slice A3 gr.length c3))
      clear HSC HST HKT HAM HKA
      go_wp2
      refine bodyPost_ret (v := .tuple #[souV A1 hd.length c1 A2 pd.length c2 A3 gr.length c3, .int .i64 base, .int .i64 q]) ?_ rfl ⟨⟨hd, pd, gr⟩, A1, c1, A2, c2, A3, c3, base, q, rfl, HF.out.1, HL.out, HF.out.2⟩
      simp [results, Tryz.results21, go_sem, s0, s1, s2]
  · go_wp2_with fail
    go_region_held3 (fun W => W.cell? ⟨b, 0, none⟩ = some (.slice A1 hd.length c1) ∧ W.cell? ⟨b, 1, none⟩ = some (.slice A2 pd.length c2) ∧ W.cell? ⟨b, 2, none⟩ = some (.slice A3 gr.length c3))
      (first | with_reducible exact HSC.out _ HK0.out | with_reducible exact HSC.out _ HKA.out | with_reducible exact HSC.out _ K6 | with_reducible exact HST.out _ _ _ _ (HSC.out _ K6))
      (first | (go_at_call 34; (with_reducible refine HAM.out.mono ?_); rintro e w6 ⟨q, hq, rfl, S6, K6'⟩; clear hq; have K6 := HKA.out.trans K6'; have T6 := Lib.hid (HKT.out _ _ S6 K6); have r60 := T6.out.r.at 0 _ rfl; have r61 := T6.out.r.at 1 _ rfl; have r62 := T6.out.r.at 2 _ rfl; have f60 := T6.out.r.f 0; have f61 := T6.out.r.f 1; have f62 := T6.out.r.f 2))
    all_goals
      obtain ⟨s0, s1, s2⟩ := set_three r60 r61 r62
      have HF := Lib.hid (T6.out.fin (.slice A1 hd.length c1) (.slice A2 pd.length c2) (.slice A3 gr.length c3))
      clear HSC HST HKT HAM HKA
      go_wp2
      refine bodyPost_ret (v := .tuple #[souV A1 hd.length c1 A2 pd.length c2 A3 gr.length c3, .int .i64 base, .int .i64 q]) ?_ rfl ⟨⟨hd, pd, gr⟩, A1, c1, A2, c2, A3, c3, base, q, rfl, HF.out.1, HL.out, HF.out.2⟩
      simp [results, Tryz.results21, go_sem, s0, s1, s2]
set_option maxHeartbeats 1000000 in
theorem drawDigitsOf_any (A : Option Addr) (n c : Nat) (w : World) (h : Bytes w A n) :
    Calls Tryz.prog 5 #[.slice A n c] w (RetAk w) := by
  have HC := Lib.hid (l16Ask_any A n c _ (h.next (ext1 w (.cells #[.slice none 0 0, .slice none 0 0, .slice none 0 0] 26))))
  have R0 := Lib.hid (BoxV.new w #[.slice none 0 0, .slice none 0 0, .slice none 0 0] 26)
  clear h
  go_enter Tryz.func5, Tryz.ntmps5
  go_wp2_with fail
  refine HC.out.mono ?_
  rintro e w1 ⟨⟨hd, pd, gr⟩, A1, c1, A2, c2, A3, c3, p, q, rfl, ho, hl, hb⟩
  have E := Lib.hid (ext_trans (ext1 w (.cells #[.slice none 0 0, .slice none 0 0, .slice none 0 0] 26)) hb)
  have R1 := Lib.hid (R0.out.next hb)
  have O := Lib.hid (ho.more (B' := w.heap.size + 1) (by simp))
  have HL := Lib.hid hl
  clear ho hl hb R0
  have r0 := R1.out.at 0 _ rfl
  have r1 := R1.out.at 1 _ rfl
  have r2 := R1.out.at 2 _ rfl
  have f0 := R1.out.f 0
  have f1 := R1.out.f 1
  have f2 := R1.out.f 2
  obtain ⟨s0, s1, s2⟩ := set_three r0 r1 r2
  have OF := Lib.hid (((O.out.low (b := w.heap.size) (j := 0) (u := .slice A1 hd.length c1) (Nat.lt_succ_self _)).low (b := w.heap.size) (j := 1) (u := .slice A2 pd.length c2) (Nat.lt_succ_self _)).low (b := w.heap.size) (j := 2) (u := .slice A3 gr.length c3) (Nat.lt_succ_self _))
  have EF := Lib.hid (ext_set (ext_set (ext_set E.out (p := ⟨w.heap.size, 0, none⟩) (Nat.le_refl _) (.slice A1 hd.length c1)) (p := ⟨w.heap.size, 1, none⟩) (Nat.le_refl _) (.slice A2 pd.length c2)) (p := ⟨w.heap.size, 2, none⟩) (Nat.le_refl _) (.slice A3 gr.length c3))
  go_wp2
  refine bodyPost_ret (v := .tuple #[souV A1 hd.length c1 A2 pd.length c2 A3 gr.length c3, .int .i64 p, .int .i64 q]) ?_ rfl ⟨⟨hd, pd, gr⟩, A1, c1, A2, c2, A3, c3, p, q, rfl, OF.out, HL.out, EF.out⟩
  simp [results, Tryz.results5, go_sem, s0, s1, s2]
set_option maxHeartbeats 1000000 in
theorem drawTermsForDigits_any (A : Option Addr) (n c : Nat) (w : World) (h : Bytes w A n) :
    Calls Tryz.prog 8 #[.slice A n c] w (RetAk w) := by
  have HC := Lib.hid (l16Ask_any A n c _ (h.next (ext1 w (.cells #[.slice none 0 0, .slice none 0 0, .slice none 0 0] 26))))
  have R0 := Lib.hid (BoxV.new w #[.slice none 0 0, .slice none 0 0, .slice none 0 0] 26)
  clear h
  go_enter Tryz.func8, Tryz.ntmps8
  go_wp2_with fail
  refine HC.out.mono ?_
  rintro e w1 ⟨⟨hd, pd, gr⟩, A1, c1, A2, c2, A3, c3, p, q, rfl, ho, hl, hb⟩
  have E := Lib.hid (ext_trans (ext1 w (.cells #[.slice none 0 0, .slice none 0 0, .slice none 0 0] 26)) hb)
  have R1 := Lib.hid (R0.out.next hb)
  have O := Lib.hid (ho.more (B' := w.heap.size + 1) (by simp))
  have HL := Lib.hid hl
  clear ho hl hb R0
  have r0 := R1.out.at 0 _ rfl
  have r1 := R1.out.at 1 _ rfl
  have r2 := R1.out.at 2 _ rfl
  have f0 := R1.out.f 0
  have f1 := R1.out.f 1
  have f2 := R1.out.f 2
  obtain ⟨s0, s1, s2⟩ := set_three r0 r1 r2
  have OF := Lib.hid (((O.out.low (b := w.heap.size) (j := 0) (u := .slice A1 hd.length c1) (Nat.lt_succ_self _)).low (b := w.heap.size) (j := 1) (u := .slice A2 pd.length c2) (Nat.lt_succ_self _)).low (b := w.heap.size) (j := 2) (u := .slice A3 gr.length c3) (Nat.lt_succ_self _))
  have EF := Lib.hid (ext_set (ext_set (ext_set E.out (p := ⟨w.heap.size, 0, none⟩) (Nat.le_refl _) (.slice A1 hd.length c1)) (p := ⟨w.heap.size, 1, none⟩) (Nat.le_refl _) (.slice A2 pd.length c2)) (p := ⟨w.heap.size, 2, none⟩) (Nat.le_refl _) (.slice A3 gr.length c3))
  go_wp2
  refine bodyPost_ret (v := .tuple #[souV A1 hd.length c1 A2 pd.length c2 A3 gr.length c3, .int .i64 p, .int .i64 q]) ?_ rfl ⟨⟨hd, pd, gr⟩, A1, c1, A2, c2, A3, c3, p, q, rfl, OF.out, HL.out, EF.out⟩
  simp [results, Tryz.results8, go_sem, s0, s1, s2]
end Go.Proofs.YtjgafjbccfjojaaGreat
