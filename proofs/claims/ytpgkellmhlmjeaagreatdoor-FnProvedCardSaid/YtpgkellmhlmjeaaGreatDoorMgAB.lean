/- Parts of the proof, merged: Base Slices Join Frame SrcW CalDrawW CalDrawsW BytesW. No condition but those that each theorem names. -/
import Derived.Test.YtpgkellmhlmjeaaGreatDoorRows
import Derived.WalkKit
import Derived.WalkLawsBesides
import Derived.WalkSpells
import Derived.Outline
import Derived.Lib.Hide
import Derived.Deep.QuietTactic
import Derived.BigQuiet
import Derived.Lib.QuietBelow
import Derived.Below
import Derived.Maps.AppendAt
import Derived.Deep.AppendLies
import Derived.OwnWalk
import Derived.JoinedOf
import Derived.ProofKit
import Derived.OpenShut
import Derived.ShutString
import Derived.ChangeOld
import Derived.Lib.SmallJoins
import Derived.Laws.BitsLemmas
import Derived.Deep.RegionHeld3
namespace Go.Proofs.YtpgkellmhlmjeaaGreatDoor
open Go.RowKit Go.Sort
theorem ret_bool {a b : Bool} (h : a = b) : Ending.returned (.bool a) = .returned (.bool b) := by rw [h]
theorem ret_int {k : IntKind} {a b : Int} (h : a = b) : Ending.returned (.int k a) = .returned (.int k b) := by rw [h]
theorem val_int {k : IntKind} {a b : Int} (h : a = b) : Value.int k a = .int k b := by rw [h]
theorem bcell {W w1 : World} (hb : Below W.heap.size W w1) : (∀ b o, b < W.heap.size → w1.cell? ⟨b, o, none⟩ = W.cell? ⟨b, o, none⟩) ∧ (∀ b o, b < W.heap.size → w1.frozen? ⟨b, o, none⟩ = W.frozen? ⟨b, o, none⟩) :=
  ⟨fun b o h => hb.cell (p := ⟨b, o, none⟩) h, fun b o h => hb.frozen (p := ⟨b, o, none⟩) h⟩
theorem ext_trans {a b c : World} (h : Below a.heap.size a b) (k : Below b.heap.size b c) : Below a.heap.size a c := h.trans (k.mono h.size)
theorem ext_alloc {a b : World} (h : Below a.heap.size a b) (o : Obj) : Below a.heap.size a (b.alloc o) := h.alloc h.size o
theorem ext_drew {a b : World} (h : Below a.heap.size a b) : Below a.heap.size a b.drew := h.drew
theorem ext_set {a b : World} (h : Below a.heap.size a b) {p : Addr} (hp : a.heap.size ≤ p.block) (u : Value) : Below a.heap.size a (b.setCell p u) := h.setCell hp u
/-- A callee that leaves the world alone, met in a region's class of worlds. -/
theorem regrown_same {P : Program} {f : FuncId} {args : Array Value} {w : World} {d : Nat} {os : Array Obj} {v : Value}
    (h : Calls P f args (grow (redrawn w d) os) fun e w' => e = .returned v ∧ grow (redrawn w d) os = w') : Calls P f args (grow (redrawn w d) os) fun e w'' => e = .returned v ∧ ∃ p : Regrown, w'' = grow (redrawn w p.d) p.os :=
  h.mono fun _ _ ⟨he, hw⟩ => ⟨he, ⟨d, os⟩, hw.symm⟩
theorem cell_one (w : World) (C : Array Value) (s : TypeId) (j : Nat) : (w.alloc (.cells C s)).cell? ⟨w.heap.size, j, none⟩ = C[j]? := World.cell?_alloc_at _ _ _ _ rfl
theorem cell_two_fst (w : World) (C D : Array Value) (s t : TypeId) (j : Nat) : ((w.alloc (.cells C s)).alloc (.cells D t)).cell? ⟨w.heap.size, j, none⟩ = C[j]? :=
  (World.cell?_alloc_lt _ _ _ (by simp)).trans (cell_one w C s j)
theorem cell_two_snd (w : World) (C D : Array Value) (s t : TypeId) (j : Nat) : ((w.alloc (.cells C s)).alloc (.cells D t)).cell? ⟨w.heap.size + 1, j, none⟩ = D[j]? :=
  World.cell?_alloc_at _ _ _ _ (by simp)
/-- A struct's result: its cells behind the stores. -/
theorem set_two {w : World} {b : Nat} {x y : Value} (h0 : w.cell? ⟨b, 0, none⟩ = some x) (h1 : w.cell? ⟨b, 1, none⟩ = some y) :
    (∀ v, (w.setCell ⟨b, 0, none⟩ v).cell? ⟨b, 0, none⟩ = some v) ∧ (∀ u v, ((w.setCell ⟨b, 0, none⟩ u).setCell ⟨b, 1, none⟩ v).cell? ⟨b, 1, none⟩ = some v) :=
  ⟨fun v => World.cell?_setCell_same _ _ _ h0, fun u v => World.cell?_setCell_same (v := v) _ _ ((World.cell?_setCell_other _ ⟨b, 0, none⟩ ⟨b, 1, none⟩ _ (by simp)).trans h1)⟩
theorem ext1 (W : World) (o : Obj) : Below W.heap.size W (W.alloc o) := ext_alloc (Below.refl _ _) o
/-- lo ≤ n ≤ hi, as a Bool. -/
def inR (n lo hi : Int) : Bool := decide (lo ≤ n) && decide (n ≤ hi)
theorem inR_true {n lo hi : Int} : inR n lo hi = true ↔ lo ≤ n ∧ n ≤ hi := by simp [inR]
theorem inR_false {n lo hi : Int} : inR n lo hi = false ↔ n < lo ∨ hi < n := by simp [inR]; omega
theorem within_any (n lo hi : Int) (w : World) :
    Calls Tryz.prog 70 #[.int .i64 n, .int .i64 lo, .int .i64 hi] w fun e w' => e = .returned (.bool (inR n lo hi)) ∧ w = w' := by
  go_enter Tryz.func70, Tryz.ntmps70
  go_wp2
  all_goals
    go_ret
    exact ⟨ret_bool (by simp [inR]; omega), rfl⟩
theorem within_is {n lo hi : Int} {b : Bool} (h : inR n lo hi = b) (w : World) :
    Calls Tryz.prog 70 #[.int .i64 n, .int .i64 lo, .int .i64 hi] w fun e w' => e = .returned (.bool b) ∧ w = w' := h ▸ within_any n lo hi w
theorem l00In_any (n lo hi : Int) (w : World) :
    Calls Tryz.prog 38 #[.int .i64 n, .int .i64 lo, .int .i64 hi] w fun e w' => e = .returned (.bool (inR n lo hi)) ∧ w = w' := by
  go_enter Tryz.func38, Tryz.ntmps38
  go_wp2
  all_goals
    go_ret
    exact ⟨ret_bool (by simp [inR]; omega), rfl⟩
theorem l00In_is {n lo hi : Int} {b : Bool} (h : inR n lo hi = b) (w : World) :
    Calls Tryz.prog 38 #[.int .i64 n, .int .i64 lo, .int .i64 hi] w fun e w' => e = .returned (.bool b) ∧ w = w' := h ▸ l00In_any n lo hi w
end Go.Proofs.YtpgkellmhlmjeaaGreatDoor
namespace Go.Proofs.YtpgkellmhlmjeaaGreatDoor
open Go.RowKit Go.Sort
/-- A slice's address A leads to cells that read as the list xs, in a block below B. -/
def Rd {α : Type} (enc : α → Value) (w : World) (B : Nat) (A : Option Addr) (xs : List α) : Prop :=
  0 < xs.length → ∃ b off, A = some ⟨b, off, none⟩ ∧ b < B ∧ ∀ j x, xs[j]? = some x → w.cell? ⟨b, off + j, none⟩ = some (enc x)
/-- .. to cells in a block from base on, of which none is frozen. -/
def Wr {α : Type} (enc : α → Value) (w : World) (base : Nat) (A : Option Addr) (xs : List α) : Prop :=
  0 < xs.length → ∃ b off, A = some ⟨b, off, none⟩ ∧ base ≤ b ∧ b < w.heap.size ∧ (∀ j x, xs[j]? = some x → w.cell? ⟨b, off + j, none⟩ = some (enc x)) ∧ ∀ j, w.frozen? ⟨b, j, none⟩ = false
section
variable {α : Type} {enc : α → Value} {w w' : World} {B B' : Nat} {A : Option Addr} {xs : List α}
theorem Rd.below (h : Rd enc w B A xs) (hb : Below B w w') : Rd enc w' B A xs := fun hn => by
  obtain ⟨b, off, e, hlt, hc⟩ := h hn
  exact ⟨b, off, e, hlt, fun j x hx => (hb.cell (p := ⟨b, off + j, none⟩) hlt).trans (hc j x hx)⟩
theorem Rd.more (h : Rd enc w B A xs) (hB : B ≤ B') : Rd enc w B' A xs := fun hn => by
  obtain ⟨b, off, e, hlt, hc⟩ := h hn
  exact ⟨b, off, e, by omega, hc⟩
theorem Wr.rd (h : Wr enc w B A xs) : Rd enc w w.heap.size A xs := fun hn => by
  obtain ⟨b, off, e, _, hlt, hc, _⟩ := h hn
  exact ⟨b, off, e, hlt, hc⟩
theorem Wr.more (h : Wr enc w B A xs) (hB : B' ≤ B) : Wr enc w B' A xs := fun hn => by
  obtain ⟨b, off, e, h1, h2, hc⟩ := h hn
  exact ⟨b, off, e, by omega, h2, hc⟩
theorem Wr.below (h : Wr enc w B A xs) (hb : Below w.heap.size w w') : Wr enc w' B A xs := fun hn => by
  obtain ⟨b, off, e, h1, h2, hc, hf⟩ := h hn
  exact ⟨b, off, e, h1, Nat.lt_of_lt_of_le h2 hb.size, fun j x hx => (hb.cell (p := ⟨b, off + j, none⟩) h2).trans (hc j x hx), fun j => (hb.frozen (p := ⟨b, j, none⟩) h2).trans (hf j)⟩
theorem Wr.setLow (h : Wr enc w B A xs) {p : Addr} (hp : p.block < B) (u : Value) : Wr enc (w.setCell p u) B A xs := fun hn => by
  obtain ⟨b, off, e, h1, h2, hc, hf⟩ := h hn
  refine ⟨b, off, e, h1, by simpa using h2, fun j x hx => ?_, fun j => (World.frozen?_setCell _ _ _ _).trans (hf j)⟩
  refine (World.cell?_setCell_other w p ⟨b, off + j, none⟩ u ?_).trans (hc j x hx)
  intro e
  subst e
  exact absurd hp (Nat.not_lt.2 h1)
theorem Wr.of_own {base : Nat} {e : TypeId} {v : Value} {n : Nat} (h : w.ownsRow base e 1 v n (xs.map enc)) : n = xs.length ∧ ∃ A c, v = .slice A n c ∧ Wr enc w base A xs := by
  have hn : n = xs.length := by have := h.1; simp at this; omega
  refine ⟨hn, ?_⟩
  rcases h.2 with ⟨rfl, h0⟩ | ⟨g, cap, cur, rfl, hg, hh, hc, hm, hs, ht⟩
  · exact ⟨none, 0, by rw [h0], fun hp => by omega⟩
  · refine ⟨_, _, rfl, fun _ => ⟨g, 0, rfl, hg, ?_, fun j x hx => ?_, fun j => ?_⟩⟩
    · rcases Nat.lt_or_ge g w.heap.size with h1 | h1
      · exact h1
      · rw [Array.getElem?_eq_none h1] at hh; cases hh
    · have hx' : (xs.map enc)[j]? = some (enc x) := by rw [List.getElem?_map, hx]; rfl
      have := h.cells (g := g) rfl j _ hx'
      have ea : (⟨g, 0, none⟩ : Addr).add j = ⟨g, 0 + j, none⟩ := by
        unfold Addr.add
        by_cases hj : j = 0 <;> simp [hj]
      rw [ea] at this
      exact this
    · simp [World.frozen?, hh]
end
theorem own_below {w w' : World} {base : Nat} {e : TypeId} {size n : Nat} {v : Value} {xs : List Value} (h : w.ownsRow base e size v n xs) (hb : Below w.heap.size w w') : w'.ownsRow base e size v n xs := by
  obtain ⟨h1, h2⟩ := h
  refine ⟨h1, ?_⟩
  rcases h2 with h2 | ⟨g, cap, cur, hv, hg, hh, r⟩
  · exact .inl h2
  · have hlt : g < w.heap.size := by
      rcases Nat.lt_or_ge g w.heap.size with h | h
      · exact h
      · rw [Array.getElem?_eq_none h] at hh; cases hh
    exact .inr ⟨g, cap, cur, hv, hg, (hb.block g hlt).trans hh, r⟩
/-- Behind an append: what lay below the row's base is as it was. -/
theorem below_grown {w0 w w' : World} {base : Nat} {e : TypeId} {size n : Nat} {v : Value} {xs : List Value} (h : Below w0.heap.size w0 w) (hown : w.ownsRow base e size v n xs) (hbase : w0.heap.size ≤ base) (hg : w.grownBy w' v.ownBlock) : Below w0.heap.size w0 w' :=
  h.grown hg h.size (fun k hk => Nat.le_trans hbase (hown.lt k hk).1)
theorem own_nil {w : World} {base : Nat} {e : TypeId} {size : Nat} : w.ownsRow base e size (.slice none 0 0) 0 [] := World.ownsRow_nil _ _ _ _
theorem info64 : (Tryz.prog.info? 2).map (fun i => (i.zero, i.size, i.bytes)) = some (some (.int .i64 0), 1, 8) := by kernel_rfl
theorem take_eq_succ {α : Type} {xs ys : List α} {k : Nat} {x : α} (h : xs.take k = ys.take k) (hx : xs[k]? = some x) (hy : ys[k]? = some x) : xs.take (k + 1) = ys.take (k + 1) := by
  rw [List.take_add_one, List.take_add_one, h, hx, hy]
set_option maxHeartbeats 400000 in
theorem l00Same_any (A B : Option Addr) (c d : Nat) (xs ys : List Int) (w : World) (hx : Rd (Value.int .i64) w w.heap.size A xs) (hy : Rd (Value.int .i64) w w.heap.size B ys) (hm : xs.length ≤ maxLen) (hm' : ys.length ≤ maxLen) :
    Calls Tryz.prog 112 #[.slice A xs.length c, .slice B ys.length d] w fun e w' => e = .returned (.bool (decide (xs = ys))) ∧ Below w.heap.size w w' := by
  unfold maxLen at hm hm'
  by_cases hl : xs.length = ys.length
  · have hl0 : ((xs.length : Int) != (ys.length : Int)) = false := by simp [hl]
    have HL := Lib.hid hl
    have hl1 : xs.length ≤ ys.length := by omega
    have hl2 : ys.length ≤ xs.length := by omega
    clear hl
    go_enter Tryz.func112, Tryz.ntmps112
    go_wp2
    go_loopw [5] (fun t wr => ∃ k : Nat, k ≤ xs.length ∧ t = .int .i64 k ∧ xs.take k = ys.take k ∧ ∃ n, wr = w.drewN n) (fun t _ => xs.length - (intOf t).toNat)
    case atStart => exact ⟨0, by omega, rfl, by simp, 0, rfl⟩
    case round =>
      obtain ⟨k, hk, rfl, ht, nn, rfl⟩ := hrel
      have HT := Lib.hid ht
      clear ht
      by_cases hlt : k < xs.length
      · obtain ⟨b, off, rfl, hb, hc⟩ := hx (by omega)
        obtain ⟨b', off', rfl, hb', hc'⟩ := hy (by omega)
        obtain ⟨x, hxk⟩ : ∃ x, xs[k]? = some x := ⟨_, List.getElem?_eq_getElem hlt⟩
        obtain ⟨y, hyk⟩ : ∃ y, ys[k]? = some y := ⟨_, List.getElem?_eq_getElem (by omega)⟩
        have c1 := hc k x hxk
        have c2 := hc' k y hyk
        have HX := Lib.hid hxk
        have HY := Lib.hid hyk
        clear hc hc' hxk hyk
        have i0 : (0 : Int) ≤ (k : Int) := by omega
        have i1 : (k : Int) < (xs.length : Int) := by omega
        have i2 : (k : Int) < (ys.length : Int) := by omega
        by_cases hxy : x = y
        · subst hxy
          go_wp2_with fail
          go_quiet (fail)
          go_wp2
          go_roundw
          case rel => exact ⟨k + 1, by omega, by go_num, take_eq_succ HT.out HX.out HY.out, _, rfl⟩
          case measure => simp [intOf]; omega
        · have hne : (x != y) = true := by simpa using hxy
          have hne' : (x == y) = false := by simpa using hxy
          go_wp2_with fail
          go_quiet (fail)
          go_wp2
          go_ret
          refine ⟨ret_bool ?_, ⟨rfl, rfl, rfl, Nat.le_refl _, fun _ _ => rfl⟩⟩
          symm
          rw [decide_eq_false_iff_not]
          rintro rfl
          exact hxy (Option.some.inj (HX.out.symm.trans HY.out))
      · go_wp2
        go_ret
        refine ⟨ret_bool ?_, ⟨rfl, rfl, rfl, Nat.le_refl _, fun _ _ => rfl⟩⟩
        symm
        rw [decide_eq_true_iff]
        have h := HT.out
        rw [List.take_of_length_le (by omega), List.take_of_length_le (by omega)] at h
        exact h
  · have hl0 : ((xs.length : Int) != (ys.length : Int)) = true := by simp; omega
    have hl1 : ((xs.length : Int) == (ys.length : Int)) = false := by simp; omega
    go_enter Tryz.func112, Tryz.ntmps112
    go_wp2
    go_ret
    exact ⟨ret_bool (by symm; rw [decide_eq_false_iff_not]; rintro rfl; exact hl rfl), Below.refl _ _⟩
theorem madeCell {w : World} {C : Array Value} {E : TypeId} {j : Nat} (h : j < C.size) : ∃ v, (w.alloc (.cells C E)).cell? ⟨w.heap.size, j, none⟩ = some v := by
  refine ⟨C[j], ?_⟩
  rw [World.cell?_alloc_at _ _ _ _ rfl]
  exact Array.getElem?_eq_getElem h
end Go.Proofs.YtpgkellmhlmjeaaGreatDoor
namespace Go.Proofs.YtpgkellmhlmjeaaGreatDoor
theorem frLaid : laidOutB Tryz.prog = true := by kernel_rfl
theorem frRowed : mapsRowed Tryz.prog = true := by kernel_rfl
theorem frKeys : Tryz.prog.plainKeys = false := by kernel_rfl
theorem frHeard : Tryz.prog.stopsHeard = true := by kernel_rfl
theorem frEnter : Tryz.prog.mayEnter = true := by kernel_rfl
theorem frLift : (({ program := "", sum := "", func := "", spec := "" } : OpenClaim).lifted == Tryz.prog.liftsFinal) = true := by kernel_rfl
theorem frMake : (Tryz.prog.make == some ({ program := "", sum := "", func := "", spec := "" } : OpenClaim).make) = true := by kernel_rfl
theorem frStops : (Tryz.prog.stops == []) = true := by kernel_rfl
theorem frKnobs : (Tryz.prog.stopKnobs == []) = true := by kernel_rfl
theorem joined_of {f : FuncId} {fn : Func} {s : ChangeSpec} {c : OpenClaim} (a1 : c.wf (OpenSpec.ofChange s) = true) (a2 : fn.params.all (Tryz.prog.readableRec ·) = true) (a3 : namedTie Tryz.prog c.named s.vars = true)
    (a4 : (c.stops == []) = true) (a5 : (c.knobs == []) = true) (a6 : (c.inPlace == Tryz.prog.inPlace f) = true) (a7 : (c.unfollowed == Tryz.prog.unfollowed f) = true) (a8 : (c.recurses == Tryz.prog.recurses f) = true) (a9 : (c.named == Tryz.prog.varsNamed f) = true)
    (a10 : (c.maps == (fn.params.toList ++ s.plain.varTypes Tryz.prog).any (Tryz.prog.mapsRec ·)) = true) (a11 : (c.ifaces == (fn.params.toList ++ s.plain.varTypes Tryz.prog).any (Tryz.prog.ifacesRec ·)) = true) (a12 : (c.mapsOut == Tryz.prog.mapsAmong fn.resultTypes.toList) = true)
    (a13 : (c.loops == (fn.params.toList ++ s.plain.varTypes Tryz.prog).any (Tryz.prog.loopsFrom ·)) = true) (a14 : (c.wideKeys == (fn.params.toList ++ s.plain.varTypes Tryz.prog ++ fn.resultTypes.toList).any (Tryz.prog.wideKeysFrom ·)) = true)
    (a15 : s.vars.all (Tryz.prog.varReadable ·) = true) (a16 : fn.resultTypes.all (fun t => Tryz.prog.readableRec t && decide (t < Tryz.prog.types.size)) = true) (a17 : (c.ifacesOut == fn.resultTypes.toList.any (Tryz.prog.ifacesRec ·)) = true) (a18 : (c.loopsOut == fn.resultTypes.toList.any (Tryz.prog.loopsFrom ·)) = true)
    (a19 : c.plainKeys = false) (a20 : c.shortTexts.isNone = true) (a21 : c.lifted = ({ program := "", sum := "", func := "", spec := "" } : OpenClaim).lifted) (a22 : c.make = ({ program := "", sum := "", func := "", spec := "" } : OpenClaim).make)
    (a23 : c.kinds = []) (a23' : c.domain = []) (a24 : (c.pinned == c.pinnedBy) = true)
    (a25 : (c.veiled == (fn.params.toList ++ s.plain.varTypes Tryz.prog ++ fn.resultTypes.toList).any (Tryz.prog.veiledRec ·)) = true) (a26 : c.veiledFits Tryz.prog fn.params.toList (fn.params.toList ++ s.plain.varTypes Tryz.prog ++ fn.resultTypes.toList) = true) :
    joinedFacts Tryz.prog f fn s c = true := by
  have b19 : (c.plainKeys == Tryz.prog.plainKeys) = true := by rw [a19, frKeys]; rfl
  have b21 : (c.lifted == Tryz.prog.liftsFinal) = true := by rw [a21]; exact frLift
  have b22 : (Tryz.prog.make == some c.make) = true := by rw [a22]; exact frMake
  unfold joinedFacts
  rw [a1, frLaid, frRowed, a2, a3, a4, frStops, a5, frKnobs, a6, a7, a8, a9, a10, a11, a12, a13, a14, a15, a16, a17, a18, b19, a20, frHeard, frEnter, b21, b22, a23, a23', a24, a25, a26]
  rfl
end Go.Proofs.YtpgkellmhlmjeaaGreatDoor
namespace Go.Proofs.YtpgkellmhlmjeaaGreatDoor
open Go.ChangeShapes Go.WideShapes Go.ChangeAt Go.RowKit
/-- What a walk is told of a slice of integers that came in: it is nil; or it leads to a row of 'cap' cells, the numbers 'zs' (the first 'len' are its elements). -/
def IsRow (k : IntKind) (w : World) (a : Option Addr) (len cap : Nat) (zs : List Int) : Prop :=
  (a = none ∧ len = 0 ∧ cap = 0 ∧ zs = []) ∨
  ∃ x, a = some x ∧ len ≤ cap ∧ cap ≤ maxLen ∧ zs.length = cap ∧ (∀ i, i < zs.length → w.cell? (x.add i) = some (.int k (zs.getD i 0))) ∧ ∀ n ∈ zs, (Lit.int k n).wf = true
section
variable {H : Type} {enc : TypeId × Value → H} {P : Program} {w : World}
theorem isRow_of {t e : TypeId} {k : IntKind} {fuel : Nat} {cs : List Value} {x : DataW H × List MemPlace} (ht : P.underlying t = some (.slice e)) (he : P.underlying e = some (.int k)) (hc : P.cellsOf e = 1)
    (hf : DataW.trod enc P w 0 (fun _ => true) true fuel t cs = some x) : ∃ A l c zs, cs = [Value.slice A l c] ∧ IsRow k w A l c zs := by
  rcases open_ints ht he hc hf with ⟨hcs, _⟩ | ⟨x, l, c, zs, hcs, _, hl, hm, hz, _, hcell, hwz⟩
  · exact ⟨none, 0, 0, [], hcs, .inl ⟨rfl, rfl, rfl, rfl⟩⟩
  · exact ⟨some x, l, c, zs, hcs, .inr ⟨_, rfl, hl, hm, by simpa using hz, hcell, hwz⟩⟩
theorem isRow_arg {t e : TypeId} {k : IntKind} {A : Option Addr} {l c : Nat} {d : DataW H} {ps : List MemPlace} (ht : P.underlying t = some (.slice e)) (he : P.underlying e = some (.int k)) (hc : P.cellsOf e = 1)
    (h : DataW.Trod enc P w 0 (fun _ => true) true t (.slice A l c) d ps) : ∃ zs, IsRow k w A l c zs := by
  obtain ⟨fuel, hf⟩ := h
  obtain ⟨A', l', c', zs, hcs, hr⟩ := isRow_of ht he hc hf
  simp [Value.cells] at hcs
  obtain ⟨rfl, rfl, rfl⟩ := hcs
  exact ⟨zs, hr⟩
end
theorem cell_plain {w : World} {x : Addr} {v : Value} (h : w.cell? x = some v) : ∃ b off, x = ⟨b, off, none⟩ ∧ b < w.heap.size := by
  obtain ⟨b, off, spot⟩ := x
  have hlt := block_lt_of_cell h
  cases spot with
  | none => exact ⟨b, off, rfl, hlt⟩
  | some s =>
    exfalso
    simp only [World.cell?] at h
    split at h
    · simp at h
    · cases h
end Go.Proofs.YtpgkellmhlmjeaaGreatDoor
namespace Go.Proofs.YtpgkellmhlmjeaaGreatDoor
open Go.RowKit Go.Sort
/-- Only block g is written; what is new lies behind. -/
def Keep (g : Nat) (w w' : World) : Prop := Below g w w' ∧ w.heap.size ≤ w'.heap.size ∧ ∀ b, b ≠ g → b < w.heap.size → w'.heap[b]? = w.heap[b]?
theorem Keep.refl (g : Nat) (w : World) : Keep g w w := ⟨Below.refl _ _, Nat.le_refl _, fun _ _ _ => rfl⟩
theorem Keep.trans {g : Nat} {a b c : World} (h : Keep g a b) (k : Keep g b c) : Keep g a c :=
  ⟨h.1.trans k.1, Nat.le_trans h.2.1 k.2.1, fun i hi hl => (k.2.2 i hi (Nat.lt_of_lt_of_le hl h.2.1)).trans (h.2.2 i hi hl)⟩
theorem Keep.set {g : Nat} {a b : World} (h : Keep g a b) (j : Nat) (u : Value) : Keep g a (b.setCell ⟨g, j, none⟩ u) :=
  ⟨h.1.setCell (by exact Nat.le_refl _) u, by simpa using h.2.1, fun i hi hl => (Below.heap_setCell b ⟨g, j, none⟩ u i (by simpa using hi)).trans (h.2.2 i hi hl)⟩
theorem Keep.of {g : Nat} {a b : World} (h : Below a.heap.size a b) (hg : g < a.heap.size) : Keep g a b :=
  ⟨h.mono (Nat.le_of_lt hg), h.size, fun _ _ hl => h.block _ hl⟩
theorem Keep.cell {g : Nat} {a b : World} (h : Keep g a b) {i o : Nat} (hi : i ≠ g) (hl : i < a.heap.size) : b.cell? ⟨i, o, none⟩ = a.cell? ⟨i, o, none⟩ := World.cell?_of_block (h.2.2 i hi hl)
theorem Keep.frozen {g : Nat} {a b : World} (h : Keep g a b) {i o : Nat} (hi : i ≠ g) (hl : i < a.heap.size) : b.frozen? ⟨i, o, none⟩ = a.frozen? ⟨i, o, none⟩ := by simp only [World.frozen?, h.2.2 i hi hl]
/-- A source in block g; N at most is drawn from it. -/
def Src (g B N : Nat) (W : World) : Prop :=
  ∃ (A : Option Addr) (n c : Nat) (bs : List Int) (k : Nat) (sd : Int), W.cell? ⟨g, 0, none⟩ = some (.slice A n c) ∧ W.cell? ⟨g, 1, none⟩ = some (.int .i64 k) ∧ W.cell? ⟨g, 2, none⟩ = some (.int .u64 sd) ∧ k ≤ N ∧
    Rd (Value.int .u8) W B A bs ∧ bs.length = n ∧ n ≤ 1000000 ∧ (∀ x ∈ bs, 0 ≤ x ∧ x ≤ 255) ∧ (0 ≤ sd ∧ sd ≤ 18446744073709551615) ∧ (∀ j, W.frozen? ⟨g, j, none⟩ = false) ∧ g < W.heap.size ∧ B ≤ g
theorem Src.next {g B N : Nat} {W W' : World} (h : Src g B N W) (hb : Below W.heap.size W W') : Src g B N W' := by
  obtain ⟨A, n, c, bs, k, sd, h0, h1, h2, h3, h4, h5, h6, h7, h8, h9, h10, h11⟩ := h
  exact ⟨A, n, c, bs, k, sd, (hb.cell (p := ⟨g, 0, none⟩) h10).trans h0, (hb.cell (p := ⟨g, 1, none⟩) h10).trans h1, (hb.cell (p := ⟨g, 2, none⟩) h10).trans h2, h3, h4.below (hb.mono (by omega)), h5, h6, h7, h8,
    fun j => (hb.frozen (p := ⟨g, j, none⟩) h10).trans (h9 j), Nat.lt_of_lt_of_le h10 hb.size, h11⟩
theorem Src.more {g B N M : Nat} {W : World} (h : Src g B N W) (hm : N ≤ M) : Src g B M W := by
  obtain ⟨A, n, c, bs, k, sd, h0, h1, h2, h3, r⟩ := h
  exact ⟨A, n, c, bs, k, sd, h0, h1, h2, by omega, r⟩
/-- What a draw returns. -/
def RetN (g B N : Nat) (lo hi : Int) (w : World) (e : Ending) (w' : World) : Prop := ∃ x : Int, lo ≤ x ∧ x ≤ hi ∧ e = .returned (.int .i64 x) ∧ Src g B N w' ∧ Keep g w w'
theorem wrapU (n : Int) : 0 ≤ IntKind.u64.wrap n ∧ IntKind.u64.wrap n ≤ 18446744073709551615 := by
  have h : IntKind.u64.wrap n = n % 18446744073709551616 := by simp [IntKind.wrap, IntKind.bits, IntKind.signed]
  rw [h]; omega
theorem mask8 {z : Int} (h0 : 0 ≤ z) (h1 : z ≤ 18446744073709551615) : 0 ≤ wrap64 (bits .and .u64 (z / 1099511627776) 255) ∧ wrap64 (bits .and .u64 (z / 1099511627776) 255) ≤ 255 := by
  have hw : ∀ n : Int, 0 ≤ n → n < 2 ^ 63 → IntKind.u64.wrap n = n := fun n a b => by
    have h : IntKind.u64.wrap n = n % 18446744073709551616 := by simp [IntKind.wrap, IntKind.bits, IntKind.signed]
    rw [h]; omega
  have h := bits_mask .u64 63 (by decide) hw 8 (by decide) (z / 1099511627776) (by omega) (by omega)
  have e : ((2 : Int) ^ 8 - 1) = 255 := by decide
  have e2 : ((2 : Int) ^ 8) = 256 := by decide
  rw [e, e2] at h
  rw [h]
  unfold wrap64
  omega
theorem cell_dn (W : World) (m : Nat) (p : Addr) : (W.drewN m).cell? p = W.cell? p := rfl
theorem Src.put {g B N : Nat} {W : World} (h : Src g B N W) {k : Nat} (_ : W.cell? ⟨g, 1, none⟩ = some (.int .i64 k)) (hN : k ≤ N) (m m' : Nat) {v : Int} (hv : 0 ≤ v ∧ v ≤ 18446744073709551615) :
    Src g B (N + 1) ((((W.drewN m).setCell ⟨g, 1, none⟩ (.int .i64 ((k : Int) + 1))).setCell ⟨g, 2, none⟩ (.int .u64 v)).drewN m') ∧ Keep g W ((((W.drewN m).setCell ⟨g, 1, none⟩ (.int .i64 ((k : Int) + 1))).setCell ⟨g, 2, none⟩ (.int .u64 v)).drewN m') := by
  obtain ⟨A, n, c, bs, k', sd, h0, h1, h2, h3, h4, h5, h6, h7, h8, h9, h10, h11⟩ := h
  have o : ∀ (V : World) (i j : Nat) (u : Value), i ≠ j → (V.setCell ⟨g, i, none⟩ u).cell? ⟨g, j, none⟩ = V.cell? ⟨g, j, none⟩ := fun V i j u hij => World.cell?_setCell_other _ _ _ _ (by intro e; injection e; omega)
  have s : ∀ (V : World) (i : Nat) (u v : Value), V.cell? ⟨g, i, none⟩ = some v → (V.setCell ⟨g, i, none⟩ u).cell? ⟨g, i, none⟩ = some u := fun V i u v hv => World.cell?_setCell_same _ _ _ hv
  have K0 : Keep g W (W.drewN m) := ⟨⟨rfl, rfl, rfl, Nat.le_refl _, fun _ _ => rfl⟩, Nat.le_refl _, fun _ _ _ => rfl⟩
  have K1 := (K0.set 1 (.int .i64 ((k : Int) + 1))).set 2 (.int .u64 v)
  refine ⟨⟨A, n, c, bs, k + 1, v, ?_, ?_, ?_, by omega, (h4.below (K1.1.mono h11)).below ⟨rfl, rfl, rfl, Nat.le_refl _, fun _ _ => rfl⟩, h5, h6, h7, hv, fun j => ?_, ?_, h11⟩, ⟨K1.1.trans ⟨rfl, rfl, rfl, Nat.le_refl _, fun _ _ => rfl⟩, K1.2.1, K1.2.2⟩⟩
  · rw [cell_dn, o _ 2 0 _ (by omega), o _ 1 0 _ (by omega)]; exact h0
  · rw [cell_dn, o _ 2 1 _ (by omega)]; exact (s _ _ _ _ h1)
  · rw [cell_dn]; exact s _ _ _ _ ((o _ 1 2 _ (by omega)).trans h2)
  · exact (World.frozen?_setCell _ _ _ _).trans ((World.frozen?_setCell _ _ _ _).trans (h9 j))
  · have := K1.2.1
    exact Nat.lt_of_lt_of_le h10 this
set_option maxHeartbeats 1000000 in
theorem srcNext_any (g B N : Nat) (w : World) (h : Src g B N w) (hN : N ≤ 1000000000) :
    Calls Tryz.prog 120 #[.pointer (some ⟨g, 0, none⟩)] w (RetN g B (N + 1) 0 255 w) := by
  obtain ⟨A, n, c, bs, k, sd, h0, h1, h2, h3, h4, h5, h6, h7, h8, h9, h10, h11⟩ := id h
  obtain ⟨d1, d2⟩ := h8
  have hf1 := h9 1
  have hf2 := h9 2
  have HS := Lib.hid h
  clear h h9
  by_cases hlt : k < n
  · obtain ⟨b, off, rfl, hb, hc⟩ := h4 (by omega)
    obtain ⟨x, hxk⟩ : ∃ x, bs[k]? = some x := ⟨_, List.getElem?_eq_getElem (by omega)⟩
    have c1 := hc k x hxk
    obtain ⟨x1, x2⟩ := h7 x (List.mem_of_getElem? hxk)
    have i0 : (0 : Int) ≤ (k : Int) := by omega
    have i1 : (k : Int) < (n : Int) := by omega
    clear hc hxk
    go_enter Tryz.func120, Tryz.ntmps120
    go_wp2_with fail
    go_quiet (fail)
    go_wp2_with fail
    go_quiet (fail)
    go_wp2_with fail
    go_quiet (fail)
    go_wp2_with fail
    go_ret
    obtain ⟨r1, r2⟩ := HS.out.put h1 h3 _ _ (wrapU _)
    exact ⟨x, x1, x2, rfl, r1, r2⟩
  · have j1 : ¬ (k : Int) < (n : Int) := by omega
    go_enter Tryz.func120, Tryz.ntmps120
    go_wp2_with fail
    go_quiet (fail)
    go_wp2_with fail
    go_quiet (fail)
    go_wp2_with fail
    go_ret
    obtain ⟨r1, r2⟩ := HS.out.put h1 h3 _ _ (wrapU _)
    exact ⟨_, (mask8 (wrapU _).1 (wrapU _).2).1, (mask8 (wrapU _).1 (wrapU _).2).2, rfl, r1, r2⟩
set_option maxHeartbeats 1000000 in
theorem srcPick_any (g B N : Nat) (n : Int) (w : World) (h : Src g B N w) (hN : N ≤ 1000000) (hn : n ≤ 1000000) :
    Calls Tryz.prog 67 #[.pointer (some ⟨g, 0, none⟩), .int .i64 n] w (RetN g B (N + 2) 0 (max 0 (n - 1)) w) := by
  have HS := Lib.hid h
  clear h
  by_cases h1 : n ≤ 1
  · go_enter Tryz.func67, Tryz.ntmps67
    go_wp2
    go_ret
    exact ⟨0, by omega, by omega, rfl, HS.out.more (by omega), Keep.refl _ _⟩
  · have h0 : (n == 0) = false := by simp; omega
    by_cases h2 : 200 < n
    · go_enter Tryz.func67, Tryz.ntmps67
      go_wp2_with fail
      refine (srcNext_any g B N _ HS.out (by omega)).mono ?_
      rintro e w1 ⟨x, x1, x2, rfl, S1, K1⟩
      go_wp2_with fail
      refine (srcNext_any g B (N + 1) _ S1 (by omega)).mono ?_
      rintro e w2 ⟨y, y1, y2, rfl, S2, K2⟩
      have q1 := Int.emod_nonneg (x * 256 + y) (show n ≠ 0 by omega)
      have q2 := Int.emod_lt_of_pos (x * 256 + y) (show 0 < n by omega)
      go_wp2
      go_ret
      exact ⟨_, q1, by omega, rfl, S2, K1.trans K2⟩
    · go_enter Tryz.func67, Tryz.ntmps67
      go_wp2_with fail
      refine (srcNext_any g B N _ HS.out (by omega)).mono ?_
      rintro e w1 ⟨x, x1, x2, rfl, S1, K1⟩
      have q1 := Int.emod_nonneg x (show n ≠ 0 by omega)
      have q2 := Int.emod_lt_of_pos x (show 0 < n by omega)
      go_wp2
      go_ret
      exact ⟨_, q1, by omega, rfl, S1.more (by omega), K1⟩
theorem srcOne_any (g B N : Nat) (n : Int) (w : World) (h : Src g B N w) (hN : N ≤ 1000000) (hn : n ≤ 1000000) :
    Calls Tryz.prog 69 #[.pointer (some ⟨g, 0, none⟩), .int .i64 n] w (fun e w' => ∃ b : Bool, e = .returned (.bool b) ∧ Src g B (N + 2) w' ∧ Keep g w w') := by
  have HS := Lib.hid h
  clear h
  go_enter Tryz.func69, Tryz.ntmps69
  go_wp2_with fail
  refine (srcPick_any g B N n _ HS.out hN hn).mono ?_
  rintro e w1 ⟨x, x1, x2, rfl, S1, K1⟩
  by_cases h0 : x = 0
  · go_wp2
    go_ret
    exact ⟨_, rfl, S1, K1⟩
  · go_wp2
    go_ret
    exact ⟨_, rfl, S1, K1⟩
end Go.Proofs.YtpgkellmhlmjeaaGreatDoor
namespace Go.Proofs.YtpgkellmhlmjeaaGreatDoor
open Go.RowKit Go.Sort
theorem Keep.setOther {g : Nat} {a b : World} (h : Keep g a b) (hg : g < a.heap.size) {i : Nat} (hi : a.heap.size ≤ i) (j : Nat) (u : Value) : Keep g a (b.setCell ⟨i, j, none⟩ u) :=
  ⟨h.1.setCell (by simp; omega) u, by simpa using h.2.1, fun k hk hl => (Below.heap_setCell b ⟨i, j, none⟩ u k (by simp; omega)).trans (h.2.2 k hk hl)⟩
theorem Src.setOther {g B N : Nat} {W : World} (h : Src g B N W) {i : Nat} (hi : g < i) (j : Nat) (u : Value) : Src g B N (W.setCell ⟨i, j, none⟩ u) := by
  obtain ⟨A, n, c, bs, k, sd, h0, h1, h2, h3, h4, h5, h6, h7, h8, h9, h10, h11⟩ := h
  have o : ∀ m, (W.setCell ⟨i, j, none⟩ u).cell? ⟨g, m, none⟩ = W.cell? ⟨g, m, none⟩ := fun m => World.cell?_setCell_other _ _ _ _ (by intro e; injection e; omega)
  exact ⟨A, n, c, bs, k, sd, (o 0).trans h0, (o 1).trans h1, (o 2).trans h2, h3, h4.below ((Below.refl _ _).setCell (by simp; omega) u), h5, h6, h7, h8, fun m => (World.frozen?_setCell _ _ _ _).trans (h9 m), by simpa using h10, h11⟩
theorem mul_rngD {x y M K : Int} (x0 : 0 ≤ x) (x1 : x ≤ M) (y0 : 0 ≤ y) (y1 : y ≤ K) : 0 ≤ x * y ∧ x * y ≤ M * K := ⟨Int.mul_nonneg x0 y0, Int.mul_le_mul x1 y1 y0 (by omega)⟩
theorem l00From_any (A : Option Addr) (n c : Nat) (bs : List Int) (w : World) (hx : Rd (Value.int .u8) w w.heap.size A bs) (hl : bs.length = n) (hn : n ≤ 1000000) (hb : ∀ x ∈ bs, 0 ≤ x ∧ x ≤ 255) :
    Calls Tryz.prog 28 #[.slice A n c] w fun e w' => e = .returned (.pointer (some ⟨w.heap.size, 0, none⟩)) ∧ Src w.heap.size w.heap.size 0 w' ∧ Below w.heap.size w w' := by
  have HX := Lib.hid hx
  have HB := Lib.hid hb
  clear hx hb
  go_enter Tryz.func28, Tryz.ntmps28
  go_wp2
  go_ret
  exact ⟨rfl, ⟨A, n, c, bs, 0, 0, by rw [cell_one]; rfl, by rw [cell_one]; rfl, by rw [cell_one]; rfl, by omega, HX.out.below (ext1 _ _), hl, hn, HB.out, by omega, fun j => World.frozen?_alloc_at _ _ _ _ rfl, by simp, Nat.le_refl _⟩, ext1 _ _⟩
section
variable {g B N : Nat} {w : World} {h : Nat} {l c s : Int} {W : World}
end
theorem set_three {w : World} {b : Nat} {x y z : Value} (h0 : w.cell? ⟨b, 0, none⟩ = some x) (h1 : w.cell? ⟨b, 1, none⟩ = some y) (h2 : w.cell? ⟨b, 2, none⟩ = some z) :
    (∀ v, (w.setCell ⟨b, 0, none⟩ v).cell? ⟨b, 0, none⟩ = some v) ∧ (∀ u v, ((w.setCell ⟨b, 0, none⟩ u).setCell ⟨b, 1, none⟩ v).cell? ⟨b, 1, none⟩ = some v) ∧ (∀ t u v, (((w.setCell ⟨b, 0, none⟩ t).setCell ⟨b, 1, none⟩ u).setCell ⟨b, 2, none⟩ v).cell? ⟨b, 2, none⟩ = some v) :=
  ⟨fun v => World.cell?_setCell_same _ _ _ h0, fun u v => World.cell?_setCell_same (v := v) _ _ ((World.cell?_setCell_other _ ⟨b, 0, none⟩ ⟨b, 1, none⟩ _ (by simp)).trans h1),
   fun t u v => World.cell?_setCell_same (v := v) _ _ ((World.cell?_setCell_other _ ⟨b, 1, none⟩ ⟨b, 2, none⟩ _ (by simp)).trans ((World.cell?_setCell_other _ ⟨b, 0, none⟩ ⟨b, 2, none⟩ _ (by simp)).trans h2))⟩
end Go.Proofs.YtpgkellmhlmjeaaGreatDoor
namespace Go.Proofs.YtpgkellmhlmjeaaGreatDoor
open Go.RowKit Go.Sort
/-- A code of bytes. -/
def Bytes (w : World) (A : Option Addr) (n : Nat) : Prop := ∃ bs : List Int, Rd (Value.int .u8) w w.heap.size A bs ∧ bs.length = n ∧ n ≤ 1000000 ∧ ∀ x ∈ bs, 0 ≤ x ∧ x ≤ 255
theorem Bytes.next {w w' : World} {A : Option Addr} {n : Nat} (h : Bytes w A n) (hb : Below w.heap.size w w') : Bytes w' A n := by
  obtain ⟨bs, h1, h2⟩ := h
  exact ⟨bs, (h1.below hb).more hb.size, h2⟩
theorem l00From_bytes (A : Option Addr) (n c : Nat) (w : World) (h : Bytes w A n) :
    Calls Tryz.prog 28 #[.slice A n c] w fun e w' => e = .returned (.pointer (some ⟨w.heap.size, 0, none⟩)) ∧ Src w.heap.size w.heap.size 0 w' ∧ Below w.heap.size w w' := by
  obtain ⟨bs, h1, h2, h3, h4⟩ := h
  exact l00From_any A n c bs w h1 h2 h3 h4
end Go.Proofs.YtpgkellmhlmjeaaGreatDoor
namespace Go.Proofs.YtpgkellmhlmjeaaGreatDoor
open Go.RowKit Go.Sort Go.ChangeShapes Go.WideShapes Go.ChangeAt
theorem IsRow.rdU {w : World} {A : Option Addr} {l c : Nat} {zs : List Int} (h : IsRow .u8 w A l c zs) : (zs.take l).length = l ∧ Rd (Value.int .u8) w w.heap.size A (zs.take l) ∧ ∀ n ∈ zs.take l, (Lit.int .u8 n).wf = true := by
  rcases h with ⟨rfl, rfl, rfl, rfl⟩ | ⟨x, rfl, hl, hm, hz, hc, hw⟩
  · exact ⟨rfl, fun h => absurd h (by simp), fun n hn => absurd hn (by simp)⟩
  · have hlen : (zs.take l).length = l := by rw [List.length_take]; omega
    refine ⟨hlen, fun hp => ?_, fun n hn => hw n (List.mem_of_mem_take hn)⟩
    obtain ⟨b, off, e, hb⟩ := cell_plain (hc 0 (by omega))
    have ex : x = ⟨b, off, none⟩ := by
      have : x.add 0 = x := by simp [Addr.add]
      rw [← this]; exact e
    subst ex
    refine ⟨b, off, rfl, hb, fun j y hy => ?_⟩
    have hj : j < zs.length := by
      have := (List.getElem?_eq_some_iff.1 hy).1
      omega
    have hcj := hc j hj
    have ea : (⟨b, off, none⟩ : Addr).add j = ⟨b, off + j, none⟩ := by
      unfold Addr.add
      by_cases hj : j = 0 <;> simp [hj]
    rw [ea] at hcj
    rw [hcj]
    have hy' : zs[j]? = some y := by
      rw [List.getElem?_take] at hy
      split at hy
      · exact hy
      · cases hy
    simp [List.getD, hy']
theorem wf_u8 {n : Int} (h : (Lit.int .u8 n).wf = true) : 0 ≤ n ∧ n ≤ 255 := by
  have h2 : (decide (IntKind.min .u8 ≤ n) && decide (n ≤ IntKind.max .u8)) = true := h
  rw [Bool.and_eq_true, decide_eq_true_iff, decide_eq_true_iff, show IntKind.min .u8 = 0 by decide, show IntKind.max .u8 = 255 by decide] at h2
  exact h2
theorem IsRow.bytes {w : World} {A : Option Addr} {l c : Nat} {zs : List Int} (h : IsRow .u8 w A l c zs) (hl : l ≤ 1000000) : Bytes w A l := by
  obtain ⟨h1, h2, h3⟩ := h.rdU
  exact ⟨_, h2, h1, hl, fun x hx => wf_u8 (h3 x hx)⟩
end Go.Proofs.YtpgkellmhlmjeaaGreatDoor
