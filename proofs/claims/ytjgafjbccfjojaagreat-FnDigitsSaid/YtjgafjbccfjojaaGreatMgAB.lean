/- Parts of the proof, merged: TmP BoxW TmW DriftW ExpW. No condition but those that each theorem names. -/
import Derived.Test.YtjgafjbccfjojaaGreatMgAA
import Derived.Deep.AppendLies
import Derived.IntWalk
namespace Go.Proofs.YtjgafjbccfjojaaGreat
open Go.RowKit Go.Sort
/-- A source: its head, its period, how much each term of the period grows. -/
structure So where
  hd : List Int
  pd : List Int
  gr : List Int
/-- p holds of all numbers below n. -/
def allTo (p : Nat → Bool) : Nat → Bool
  | 0 => true
  | k + 1 => allTo p k && p k
theorem allTo_false {p : Nat → Bool} {k : Nat} (h : p k = false) : ∀ n, k < n → allTo p n = false
  | n + 1, hn => by
    unfold allTo
    rcases Nat.lt_or_ge k n with g | g
    · rw [allTo_false h n g, Bool.false_and]
    · obtain rfl : k = n := by omega
      rw [h, Bool.and_false]
theorem allTo_succ {p : Nat → Bool} {k : Nat} (h : allTo p k = true) (hk : p k = true) : allTo p (k + 1) = true := by rw [allTo, h, hk]; rfl
theorem allTo_at {p : Nat → Bool} {n : Nat} (h : allTo p n = true) {k : Nat} (hk : k < n) : p k = true := by
  cases e : p k
  · rw [allTo_false e n hk] at h; cases h
  · rfl
def hdB (s : So) (k : Nat) : Bool := inR (s.hd.getD k 0) (if k = 0 then -1000000000 else 1) 1000000000
def pgB (s : So) (k : Nat) : Bool := inR (s.pd.getD k 0) 1 1000000 && inR (s.gr.getD k 0) 0 1000000
def soLen (s : So) : Bool := decide (s.hd.length ≤ 30) && (decide (s.pd.length ≤ 30) && (decide (s.gr.length = s.pd.length) && decide (s.hd.length + s.pd.length ≠ 0)))
def soB (s : So) : Bool := soLen s && (allTo (hdB s) s.hd.length && allTo (pgB s) s.pd.length)
theorem soLen_true {s : So} : soLen s = true ↔ s.hd.length ≤ 30 ∧ s.pd.length ≤ 30 ∧ s.gr.length = s.pd.length ∧ s.hd.length + s.pd.length ≠ 0 := by
  unfold soLen; simp only [Bool.and_eq_true, decide_eq_true_eq]
/-- The term at place k. -/
def tmS (s : So) (k : Nat) : Option Int :=
  if k < s.hd.length then some (s.hd.getD k 0)
  else if s.pd.length = 0 then none
  else some (s.pd.getD ((k - s.hd.length) % s.pd.length) 0 + (((k - s.hd.length) / s.pd.length : Nat) : Int) * s.gr.getD ((k - s.hd.length) % s.pd.length) 0)
theorem tmS_zero {s : So} (h : soB s = true) : tmS s 0 ≠ none := by
  unfold soB at h
  rw [Bool.and_eq_true] at h
  obtain ⟨_, _, _, h4⟩ := soLen_true.1 h.1
  unfold tmS
  split
  · simp
  · rw [if_neg (by omega)]; simp
theorem so_at {s : So} (h : soB s = true) : (s.hd.length ≤ 30 ∧ s.pd.length ≤ 30 ∧ s.gr.length = s.pd.length ∧ s.hd.length + s.pd.length ≠ 0) ∧
    (∀ k, k < s.hd.length → (if k = 0 then -1000000000 else 1) ≤ s.hd.getD k 0 ∧ s.hd.getD k 0 ≤ 1000000000) ∧
    ∀ k, k < s.pd.length → (1 ≤ s.pd.getD k 0 ∧ s.pd.getD k 0 ≤ 1000000) ∧ 0 ≤ s.gr.getD k 0 ∧ s.gr.getD k 0 ≤ 1000000 := by
  unfold soB at h
  rw [Bool.and_eq_true, Bool.and_eq_true] at h
  refine ⟨soLen_true.1 h.1, fun k hk => inR_true.1 (allTo_at h.2.1 hk), fun k hk => ?_⟩
  have := allTo_at h.2.2 hk
  unfold pgB at this
  rw [Bool.and_eq_true] at this
  exact ⟨inR_true.1 this.1, inR_true.1 this.2⟩
/-- Terms are not too great. -/
theorem tmS_bd {s : So} (h : soB s = true) {k : Nat} (hk : k ≤ 1000000) {t : Int} (ht : tmS s k = some t) : -1000000000 ≤ t ∧ t ≤ 1000001000000 ∧ (0 < k → 1 ≤ t) := by
  obtain ⟨⟨h1, h2, h3, h4⟩, h5, h6⟩ := so_at h
  unfold tmS at ht
  split at ht
  · rename_i hlt
    injection ht with ht
    have := h5 k hlt
    split at this <;> omega
  · split at ht
    · cases ht
    · rename_i hp
      injection ht with ht
      have hm : (k - s.hd.length) % s.pd.length < s.pd.length := Nat.mod_lt _ (by omega)
      obtain ⟨⟨a1, a2⟩, a3, a4⟩ := h6 _ hm
      have hq : (k - s.hd.length) / s.pd.length ≤ k := Nat.le_trans (Nat.div_le_self _ _) (by omega)
      generalize (k - s.hd.length) / s.pd.length = q at *
      generalize s.gr.getD ((k - s.hd.length) % s.pd.length) 0 = g at *
      generalize s.pd.getD ((k - s.hd.length) % s.pd.length) 0 = p at *
      have b1 : 0 ≤ (q : Int) * g := Int.mul_nonneg (by omega) a3
      have b2 : (q : Int) * g ≤ 1000000 * 1000000 := Int.mul_le_mul (by omega) a4 a3 (by omega)
      omega
theorem getD_of {xs : List Int} {k : Nat} (h : k < xs.length) : xs[k]? = some (xs.getD k 0) := by
  rw [List.getD_eq_getElem?_getD, List.getElem?_eq_getElem h]; rfl
end Go.Proofs.YtjgafjbccfjojaaGreat
namespace Go.Proofs.YtjgafjbccfjojaaGreat
open Go.RowKit Go.Sort
/-- Block g begins with the cells vs, and may be written. -/
structure BoxV (g : Nat) (vs : List Value) (W : World) : Prop where
  c : ∀ j v, vs[j]? = some v → W.cell? ⟨g, j, none⟩ = some v
  f : ∀ j, W.frozen? ⟨g, j, none⟩ = false
  lt : g < W.heap.size
theorem BoxV.new (W : World) (C : Array Value) (T : TypeId) : BoxV W.heap.size C.toList (W.alloc (.cells C T)) :=
  ⟨fun j v h => by rw [cell_one, ← Array.getElem?_toList]; exact h, fun j => World.frozen?_alloc_at _ _ _ _ rfl, by simp⟩
theorem BoxV.next {g : Nat} {vs : List Value} {W W' : World} (h : BoxV g vs W) (hb : Below W.heap.size W W') : BoxV g vs W' :=
  ⟨fun j v hv => (hb.cell (p := ⟨g, j, none⟩) h.lt).trans (h.c j v hv), fun j => (hb.frozen (p := ⟨g, j, none⟩) h.lt).trans (h.f j), Nat.lt_of_lt_of_le h.lt hb.size⟩
theorem BoxV.alloc {g : Nat} {vs : List Value} {W : World} (h : BoxV g vs W) (o : Obj) : BoxV g vs (W.alloc o) := h.next (ext1 W o)
theorem BoxV.drew {g : Nat} {vs : List Value} {W : World} (h : BoxV g vs W) : BoxV g vs W.drew := ⟨h.c, h.f, h.lt⟩
theorem BoxV.grown {g : Nat} {vs : List Value} {W W' : World} {row : Option Nat} (h : BoxV g vs W) (hg : W.grownBy W' row) (hn : row ≠ some g) : BoxV g vs W' := by
  have hb : W'.heap[g]? = W.heap[g]? := hg.block g h.lt (fun e => hn e.symm)
  exact ⟨fun j v hv => (World.cell?_of_block (a := ⟨g, j, none⟩) hb).trans (h.c j v hv), fun j => by have := h.f j; simpa only [World.frozen?, hb] using this, Nat.lt_of_lt_of_le h.lt hg.size⟩
theorem BoxV.set {g : Nat} {vs : List Value} {W : World} (h : BoxV g vs W) (j : Nat) (u : Value) (hj : j < vs.length) : BoxV g (vs.set j u) (W.setCell ⟨g, j, none⟩ u) := by
  refine ⟨fun i v hv => ?_, fun i => (World.frozen?_setCell _ _ _ _).trans (h.f i), by simpa using h.lt⟩
  by_cases hij : i = j
  · subst hij
    rw [List.getElem?_set_self hj] at hv
    obtain rfl := Option.some.inj hv
    exact World.cell?_setCell_same _ _ _ (h.c i _ (List.getElem?_eq_getElem hj))
  · rw [List.getElem?_set_ne (fun e => hij e.symm)] at hv
    exact (World.cell?_setCell_other _ _ _ _ (by intro e; injection e; omega)).trans (h.c i v hv)
theorem BoxV.setFar {g b j : Nat} {vs : List Value} {W : World} (h : BoxV g vs W) (u : Value) (hb : b ≠ g) : BoxV g vs (W.setCell ⟨b, j, none⟩ u) :=
  ⟨fun i v hv => (World.cell?_setCell_other _ _ _ _ (by intro e; injection e; omega)).trans (h.c i v hv), fun i => (World.frozen?_setCell _ _ _ _).trans (h.f i), by simpa using h.lt⟩
theorem BoxV.at {g : Nat} {vs : List Value} {W : World} (h : BoxV g vs W) (j : Nat) (v : Value) (hv : vs[j]? = some v) : W.cell? ⟨g, j, none⟩ = some v := h.c j v hv
theorem set3 {w : World} {b : Nat} {x y z : Value} (h0 : w.cell? ⟨b, 0, none⟩ = some x) (h1 : w.cell? ⟨b, 1, none⟩ = some y) (h2 : w.cell? ⟨b, 2, none⟩ = some z) :
    (∀ v, (w.setCell ⟨b, 0, none⟩ v).cell? ⟨b, 0, none⟩ = some v) ∧ (∀ u v, ((w.setCell ⟨b, 0, none⟩ u).setCell ⟨b, 1, none⟩ v).cell? ⟨b, 1, none⟩ = some v) ∧ (∀ t u v, (((w.setCell ⟨b, 0, none⟩ t).setCell ⟨b, 1, none⟩ u).setCell ⟨b, 2, none⟩ v).cell? ⟨b, 2, none⟩ = some v) :=
  ⟨fun v => World.cell?_setCell_same _ _ _ h0, fun u v => World.cell?_setCell_same (v := v) _ _ ((World.cell?_setCell_other _ ⟨b, 0, none⟩ ⟨b, 1, none⟩ _ (by simp)).trans h1),
   fun t u v => World.cell?_setCell_same (v := v) _ _ ((World.cell?_setCell_other _ ⟨b, 1, none⟩ ⟨b, 2, none⟩ _ (by simp)).trans ((World.cell?_setCell_other _ ⟨b, 0, none⟩ ⟨b, 2, none⟩ _ (by simp)).trans h2))⟩
end Go.Proofs.YtjgafjbccfjojaaGreat
namespace Go.Proofs.YtjgafjbccfjojaaGreat
open Go.RowKit Go.Sort
@[reducible] def souV (H : Option Addr) (a ca : Nat) (P : Option Addr) (b cb : Nat) (G : Option Addr) (c cc : Nat) : Value := .agg #[.slice H a ca, .slice P b cb, .slice G c cc]
/-- The three slices read as a source. -/
structure RdSo (w : World) (B : Nat) (H P G : Option Addr) (s : So) : Prop where
  h : Rd (Value.int .i64) w B H s.hd
  p : Rd (Value.int .i64) w B P s.pd
  g : Rd (Value.int .i64) w B G s.gr
theorem RdSo.below {w w' : World} {B : Nat} {H P G : Option Addr} {s : So} (h : RdSo w B H P G s) (hb : Below B w w') : RdSo w' B H P G s := ⟨h.h.below hb, h.p.below hb, h.g.below hb⟩
theorem RdSo.more {w : World} {B B' : Nat} {H P G : Option Addr} {s : So} (h : RdSo w B H P G s) (hB : B ≤ B') : RdSo w B' H P G s := ⟨h.h.more hB, h.p.more hB, h.g.more hB⟩
theorem RdSo.next {w w' : World} {H P G : Option Addr} {s : So} (h : RdSo w w.heap.size H P G s) (hb : Below w.heap.size w w') : RdSo w' w'.heap.size H P G s := (h.below hb).more hb.size
/-- A source in block g. -/
structure SoAt (w : World) (g : Nat) (H P G : Option Addr) (ch cp cg : Nat) (s : So) : Prop where
  c0 : w.cell? ⟨g, 0, none⟩ = some (.slice H s.hd.length ch)
  c1 : w.cell? ⟨g, 1, none⟩ = some (.slice P s.pd.length cp)
  c2 : w.cell? ⟨g, 2, none⟩ = some (.slice G s.gr.length cg)
theorem SoAt.of_box {w : World} {g : Nat} {H P G : Option Addr} {ch cp cg : Nat} {s : So} (h : BoxV g [.slice H s.hd.length ch, .slice P s.pd.length cp, .slice G s.gr.length cg] w) : SoAt w g H P G ch cp cg s := ⟨h.at 0 _ rfl, h.at 1 _ rfl, h.at 2 _ rfl⟩
theorem SoAt.below {w w' : World} {g B : Nat} {H P G : Option Addr} {ch cp cg : Nat} {s : So} (h : SoAt w g H P G ch cp cg s) (hb : Below B w w') (hg : g < B) : SoAt w' g H P G ch cp cg s :=
  ⟨(hb.cell (p := ⟨g, 0, none⟩) hg).trans h.c0, (hb.cell (p := ⟨g, 1, none⟩) hg).trans h.c1, (hb.cell (p := ⟨g, 2, none⟩) hg).trans h.c2⟩
theorem below_drewN {B n : Nat} {w w' : World} (h : Below B w w') : Below B w (w'.drewN n) := ⟨h.os, h.tape, h.output, h.size, h.block⟩
theorem sizeT_any (A : Option Addr) (n c : Nat) (w : World) : Calls Tryz.prog 55 #[.slice A n c] w fun e w' => e = .returned (.int .i64 (n : Int)) ∧ w = w' := by
  go_enter Tryz.func55, Tryz.ntmps55
  go_wp2
  go_ret
  exact ⟨rfl, rfl⟩
/-- What decides the tests ahead of the loops. -/
theorem soLen_bad {s : So} (h : ¬ (s.hd.length ≤ 30 ∧ s.pd.length ≤ 30 ∧ s.gr.length = s.pd.length ∧ s.hd.length + s.pd.length ≠ 0)) : soB s = false := by
  have : soLen s = false := by
    cases e : soLen s
    · rfl
    · exact absurd (soLen_true.1 e) h
  unfold soB
  rw [this, Bool.false_and]
set_option maxRecDepth 100000 in
set_option maxHeartbeats 2000000 in
theorem ValidSource_any (s : So) (H P G : Option Addr) (ch cp cg : Nat) (w : World) (hr : RdSo w w.heap.size H P G s) :
    Calls Tryz.prog 22 #[souV H s.hd.length ch P s.pd.length cp G s.gr.length cg] w fun e w' => e = .returned (.bool (soB s)) ∧ Below w.heap.size w w' := by
  unfold souV
  by_cases g1 : s.hd.length ≤ 30
  · have d1 : decide ((30 : Int) < (s.hd.length : Int)) = false := by simp; omega
    have d1n : decide (30 < s.hd.length) = false := by simp; omega
    by_cases g2 : s.pd.length ≤ 30
    · have d2 : decide ((30 : Int) < (s.pd.length : Int)) = false := by simp; omega
      have d2n : decide (30 < s.pd.length) = false := by simp; omega
      by_cases g3 : s.hd.length + s.pd.length = 0
      · have HE2 := Lib.hid (soLen_bad (s := s) (by omega))
        have d3 : ((s.hd.length : Int) + (s.pd.length : Int) == 0) = true := by simp; omega
        go_enter Tryz.func22, Tryz.ntmps22
        go_wp2
        go_ret
        exact ⟨ret_bool HE2.out.symm, ext1 _ _⟩
      · have d3 : ((s.hd.length : Int) + (s.pd.length : Int) == 0) = false := by simp; omega
        by_cases g4 : s.gr.length = s.pd.length
        · have HG := Lib.hid ((soLen_true (s := s)).2 ⟨g1, g2, g4, g3⟩)
          have G4 := Lib.hid g4
          have d4 : ((s.gr.length : Int) != (s.pd.length : Int)) = false := by simp; omega
          have d4n : (s.gr.length != s.pd.length) = false := by simp; omega
          have HR : Hid (RdSo (w.alloc (.cells #[.slice H s.hd.length ch, .slice P s.pd.length cp, .slice G s.gr.length cg] 26)) w.heap.size H P G s) := hr.below (ext1 _ _)
          have HE : Hid (Below w.heap.size w (w.alloc (.cells #[.slice H s.hd.length ch, .slice P s.pd.length cp, .slice G s.gr.length cg] 26))) := ext1 _ _
          have X : SoAt (w.alloc (.cells #[.slice H s.hd.length ch, .slice P s.pd.length cp, .slice G s.gr.length cg] 26)) w.heap.size H P G ch cp cg s := SoAt.of_box (BoxV.new w #[.slice H s.hd.length ch, .slice P s.pd.length cp, .slice G s.gr.length cg] 26)
          obtain ⟨x0, x1, x2⟩ := X
          clear g4
          go_enter Tryz.func22, Tryz.ntmps22
          go_wp2_with fail
          generalize w.alloc (.cells #[.slice H s.hd.length ch, .slice P s.pd.length cp, .slice G s.gr.length cg] 26) = W at *
          clear d1 d1n d2 d2n d3 d4 d4n
          go_loopw [39] (fun t wr => ∃ k : Nat, k ≤ s.hd.length ∧ t = .int .i64 k ∧ Hid (allTo (hdB s) k = true) ∧ ∃ n, wr = W.drewN n) (fun t _ => s.hd.length - (intOf t).toNat)
          case atStart => exact ⟨0, by omega, rfl, rfl, 0, rfl⟩
          case round =>
            obtain ⟨k, hk, rfl, HK, nn, rfl⟩ := hrel
            by_cases hlt : k < s.hd.length
            · obtain ⟨b, off, rfl, hb, hc⟩ := HR.out.h (by omega)
              have cx := hc k _ (getD_of hlt)
              have HB : Hid (hdB s k = inR (s.hd.getD k 0) (if k = 0 then -1000000000 else 1) 1000000000) := rfl
              have i0 : (0 : Int) ≤ (k : Int) := by omega
              have i1 : (k : Int) < (s.hd.length : Int) := by omega
              have HF : Hid (hdB s k = false → soB s = false) := fun h => by
                unfold soB
                rw [allTo_false h _ hlt]
                simp
              clear hc
              generalize s.hd.getD k 0 = t at *
              by_cases hk0 : k = 0
              · have e0 : ((k : Int) == 0) = true := by simpa using hk0
                rw [if_pos hk0] at HB
                clear hk0
                cases hin : inR t (-1000000000) 1000000000
                · rw [hin] at HB
                  have HE2 := Lib.hid (HF.out HB.out)
                  clear HB HF
                  go_wp2_with (go_at_call 24; refine (within_is hin _).mono ?_; rintro e w' ⟨rfl, rfl⟩)
                  go_ret
                  exact ⟨ret_bool HE2.out.symm, below_drewN HE.out⟩
                · rw [hin] at HB
                  have HE2 := Lib.hid (allTo_succ HK.out HB.out)
                  clear HB HF
                  go_wp2_with (go_at_call 24; refine (within_is hin _).mono ?_; rintro e w' ⟨rfl, rfl⟩)
                  go_roundw
                  case rel => exact ⟨k + 1, by omega, by go_num, HE2.out, _, rfl⟩
                  case measure => simp [intOf]; omega
              · have e0 : ((k : Int) == 0) = false := by simpa using hk0
                rw [if_neg hk0] at HB
                clear hk0
                cases hin : inR t 1 1000000000
                · rw [hin] at HB
                  have HE2 := Lib.hid (HF.out HB.out)
                  clear HB HF
                  go_wp2_with (go_at_call 24; refine (within_is hin _).mono ?_; rintro e w' ⟨rfl, rfl⟩)
                  go_ret
                  exact ⟨ret_bool HE2.out.symm, below_drewN HE.out⟩
                · rw [hin] at HB
                  have HE2 := Lib.hid (allTo_succ HK.out HB.out)
                  clear HB HF
                  go_wp2_with (go_at_call 24; refine (within_is hin _).mono ?_; rintro e w' ⟨rfl, rfl⟩)
                  go_roundw
                  case rel => exact ⟨k + 1, by omega, by go_num, HE2.out, _, rfl⟩
                  case measure => simp [intOf]; omega
            · have HH : Hid (allTo (hdB s) s.hd.length = true) := by
                have h := HK.out
                rwa [show k = s.hd.length by omega] at h
              have i1 : ¬ (k : Int) < (s.hd.length : Int) := by omega
              clear HK
              go_wp2_with fail
              go_loopw [54] (fun t wr => ∃ k : Nat, k ≤ s.pd.length ∧ t = .int .i64 k ∧ Hid (allTo (pgB s) k = true) ∧ ∃ n, wr = W.drewN n) (fun t _ => s.pd.length - (intOf t).toNat)
              case atStart => exact ⟨0, by omega, rfl, rfl, _, rfl⟩
              case round =>
                clear i1 hlt hk
                obtain ⟨k, hk, rfl, HK, nn, rfl⟩ := hrel
                by_cases hlt : k < s.pd.length
                · obtain ⟨b, off, rfl, hb, hc⟩ := HR.out.p (by omega)
                  obtain ⟨b', off', rfl, hb', hc'⟩ := HR.out.g (by have := G4.out; omega)
                  have cx := hc k _ (getD_of hlt)
                  have cy := hc' k _ (getD_of (by have := G4.out; omega))
                  have HB : Hid (pgB s k = (inR (s.pd.getD k 0) 1 1000000 && inR (s.gr.getD k 0) 0 1000000)) := rfl
                  have i0 : (0 : Int) ≤ (k : Int) := by omega
                  have i1 : (k : Int) < (s.pd.length : Int) := by omega
                  have i2 : (k : Int) < (s.gr.length : Int) := by have := G4.out; omega
                  have HF : Hid (pgB s k = false → soB s = false) := fun h => by
                    unfold soB
                    rw [allTo_false h _ hlt]
                    simp
                  clear hc hc'
                  generalize s.pd.getD k 0 = t at *
                  generalize s.gr.getD k 0 = u at *
                  cases hin : inR t 1 1000000
                  · rw [hin, Bool.false_and] at HB
                    have HE2 := Lib.hid (HF.out HB.out)
                    clear HB HF
                    go_wp2_with (go_at_call 24; refine (within_is hin _).mono ?_; rintro e w' ⟨rfl, rfl⟩)
                    go_ret
                    exact ⟨ret_bool HE2.out.symm, below_drewN HE.out⟩
                  · cases hin2 : inR u 0 1000000
                    · rw [hin, hin2, Bool.and_false] at HB
                      have HE2 := Lib.hid (HF.out HB.out)
                      clear HB HF
                      go_wp2_with (go_at_call 24; first | ((with_reducible refine (within_is hin _).mono ?_); rintro e w' ⟨rfl, rfl⟩) | ((with_reducible refine (within_is hin2 _).mono ?_); rintro e w' ⟨rfl, rfl⟩))
                      go_ret
                      exact ⟨ret_bool HE2.out.symm, below_drewN HE.out⟩
                    · rw [hin, hin2, Bool.and_true] at HB
                      have HE2 := Lib.hid (allTo_succ HK.out HB.out)
                      clear HB HF
                      go_wp2_with (go_at_call 24; first | ((with_reducible refine (within_is hin _).mono ?_); rintro e w' ⟨rfl, rfl⟩) | ((with_reducible refine (within_is hin2 _).mono ?_); rintro e w' ⟨rfl, rfl⟩))
                      go_roundw
                      case rel => exact ⟨k + 1, by omega, by go_num, HE2.out, _, rfl⟩
                      case measure => simp [intOf]; omega
                · have HE2 : Hid (soB s = true) := by
                    have h := HK.out
                    rw [show k = s.pd.length by omega] at h
                    unfold Hid soB
                    rw [HG.out, HH.out, h]; rfl
                  have i1 : ¬ (k : Int) < (s.pd.length : Int) := by omega
                  go_wp2
                  go_ret
                  exact ⟨ret_bool HE2.out.symm, below_drewN HE.out⟩
        · have HE2 := Lib.hid (soLen_bad (s := s) (by omega))
          have d4 : ((s.gr.length : Int) != (s.pd.length : Int)) = true := by simp; omega
          have d4n : (s.gr.length != s.pd.length) = true := by simp; omega
          go_enter Tryz.func22, Tryz.ntmps22
          go_wp2
          go_ret
          exact ⟨ret_bool HE2.out.symm, ext1 _ _⟩
    · have HE2 := Lib.hid (soLen_bad (s := s) (by omega))
      have d2 : decide ((30 : Int) < (s.pd.length : Int)) = true := by simp; omega
      have d2n : decide (30 < s.pd.length) = true := by simp; omega
      go_enter Tryz.func22, Tryz.ntmps22
      go_wp2
      go_ret
      exact ⟨ret_bool HE2.out.symm, ext1 _ _⟩
  · have HE2 := Lib.hid (soLen_bad (s := s) (by omega))
    have d1 : decide ((30 : Int) < (s.hd.length : Int)) = true := by simp; omega
    have d1n : decide (30 < s.hd.length) = true := by simp; omega
    go_enter Tryz.func22, Tryz.ntmps22
    go_wp2
    go_ret
    exact ⟨ret_bool HE2.out.symm, ext1 _ _⟩
set_option maxRecDepth 100000 in
set_option maxHeartbeats 2000000 in
theorem l15Ok_any (s : So) (g : Nat) (H P G : Option Addr) (ch cp cg : Nat) (W : World) (hr : RdSo W W.heap.size H P G s) (ha : SoAt W g H P G ch cp cg s) :
    Calls Tryz.prog 59 #[.pointer (some ⟨g, 0, none⟩)] W fun e w' => e = .returned (.bool (soB s)) ∧ Below W.heap.size W w' := by
  obtain ⟨x0, x1, x2⟩ := ha
  have HR := Lib.hid hr
  have HE := Lib.hid (Below.refl W.heap.size W)
  clear hr
  by_cases g1 : s.hd.length ≤ 30
  · have d1 : decide ((30 : Int) < (s.hd.length : Int)) = false := by simp; omega
    have d1n : decide (30 < s.hd.length) = false := by simp; omega
    by_cases g2 : s.pd.length ≤ 30
    · have d2 : decide ((30 : Int) < (s.pd.length : Int)) = false := by simp; omega
      have d2n : decide (30 < s.pd.length) = false := by simp; omega
      by_cases g4 : s.gr.length = s.pd.length
      · have d4 : ((s.gr.length : Int) != (s.pd.length : Int)) = false := by simp; omega
        have d4n : (s.gr.length != s.pd.length) = false := by simp; omega
        by_cases g3 : s.hd.length + s.pd.length = 0
        · have HE2 := Lib.hid (soLen_bad (s := s) (by omega))
          have d3 : ((s.hd.length : Int) + (s.pd.length : Int) == 0) = true := by simp; omega
          clear g4
          go_enter Tryz.func59, Tryz.ntmps59
          go_wp2_with fail
          go_quiet (fail)
          go_wp2
          go_ret
          exact ⟨ret_bool HE2.out.symm, below_drewN HE.out⟩
        · have HG := Lib.hid ((soLen_true (s := s)).2 ⟨g1, g2, g4, g3⟩)
          have G4 := Lib.hid g4
          have d3 : ((s.hd.length : Int) + (s.pd.length : Int) == 0) = false := by simp; omega
          clear g4
          go_enter Tryz.func59, Tryz.ntmps59
          go_wp2_with fail
          go_quiet (fail)
          go_wp2_with fail
          clear d1 d1n d2 d2n d3 d4 d4n
          go_loopw [3] (fun t wr => ∃ k : Nat, k ≤ s.hd.length ∧ t = .int .i64 k ∧ Hid (allTo (hdB s) k = true) ∧ ∃ n, wr = W.drewN n) (fun t _ => s.hd.length - (intOf t).toNat)
          case atStart => exact ⟨0, by omega, rfl, rfl, _, rfl⟩
          case round =>
            obtain ⟨k, hk, rfl, HK, nn, rfl⟩ := hrel
            by_cases hlt : k < s.hd.length
            · obtain ⟨b, off, rfl, hb, hc⟩ := HR.out.h (by omega)
              have cx := hc k _ (getD_of hlt)
              have HB : Hid (hdB s k = inR (s.hd.getD k 0) (if k = 0 then -1000000000 else 1) 1000000000) := rfl
              have i0 : (0 : Int) ≤ (k : Int) := by omega
              have i1 : (k : Int) < (s.hd.length : Int) := by omega
              have HF : Hid (hdB s k = false → soB s = false) := fun h => by
                unfold soB
                rw [allTo_false h _ hlt]
                simp
              clear hc
              generalize s.hd.getD k 0 = t at *
              by_cases hk0 : k = 0
              · have e0 : ((k : Int) == 0) = true := by simpa using hk0
                rw [if_pos hk0] at HB
                clear hk0
                cases hin : inR t (-1000000000) 1000000000
                · rw [hin] at HB
                  have HE2 := Lib.hid (HF.out HB.out)
                  clear HB HF
                  go_wp2_with (go_at_call 40; refine (l00In_is hin _).mono ?_; rintro e w' ⟨rfl, rfl⟩)
                  go_ret
                  exact ⟨ret_bool HE2.out.symm, below_drewN HE.out⟩
                · rw [hin] at HB
                  have HE2 := Lib.hid (allTo_succ HK.out HB.out)
                  clear HB HF
                  go_wp2_with (go_at_call 40; refine (l00In_is hin _).mono ?_; rintro e w' ⟨rfl, rfl⟩)
                  go_roundw
                  case rel => exact ⟨k + 1, by omega, by go_num, HE2.out, _, rfl⟩
                  case measure => simp [intOf]; omega
              · have e0 : ((k : Int) == 0) = false := by simpa using hk0
                rw [if_neg hk0] at HB
                clear hk0
                cases hin : inR t 1 1000000000
                · rw [hin] at HB
                  have HE2 := Lib.hid (HF.out HB.out)
                  clear HB HF
                  go_wp2_with (go_at_call 40; refine (l00In_is hin _).mono ?_; rintro e w' ⟨rfl, rfl⟩)
                  go_ret
                  exact ⟨ret_bool HE2.out.symm, below_drewN HE.out⟩
                · rw [hin] at HB
                  have HE2 := Lib.hid (allTo_succ HK.out HB.out)
                  clear HB HF
                  go_wp2_with (go_at_call 40; refine (l00In_is hin _).mono ?_; rintro e w' ⟨rfl, rfl⟩)
                  go_roundw
                  case rel => exact ⟨k + 1, by omega, by go_num, HE2.out, _, rfl⟩
                  case measure => simp [intOf]; omega
            · have HH : Hid (allTo (hdB s) s.hd.length = true) := by
                have h := HK.out
                rwa [show k = s.hd.length by omega] at h
              have i1 : ¬ (k : Int) < (s.hd.length : Int) := by omega
              clear HK
              go_wp2_with fail
              go_loopw [5] (fun t wr => ∃ k : Nat, k ≤ s.pd.length ∧ t = .int .i64 k ∧ Hid (allTo (pgB s) k = true) ∧ ∃ n, wr = W.drewN n) (fun t _ => s.pd.length - (intOf t).toNat)
              case atStart => exact ⟨0, by omega, rfl, rfl, _, rfl⟩
              case round =>
                clear i1 hlt hk
                obtain ⟨k, hk, rfl, HK, nn, rfl⟩ := hrel
                by_cases hlt : k < s.pd.length
                · obtain ⟨b, off, rfl, hb, hc⟩ := HR.out.p (by omega)
                  obtain ⟨b', off', rfl, hb', hc'⟩ := HR.out.g (by have := G4.out; omega)
                  have cx := hc k _ (getD_of hlt)
                  have cy := hc' k _ (getD_of (by have := G4.out; omega))
                  have HB : Hid (pgB s k = (inR (s.pd.getD k 0) 1 1000000 && inR (s.gr.getD k 0) 0 1000000)) := rfl
                  have i0 : (0 : Int) ≤ (k : Int) := by omega
                  have i1 : (k : Int) < (s.pd.length : Int) := by omega
                  have i2 : (k : Int) < (s.gr.length : Int) := by have := G4.out; omega
                  have HF : Hid (pgB s k = false → soB s = false) := fun h => by
                    unfold soB
                    rw [allTo_false h _ hlt]
                    simp
                  clear hc hc'
                  generalize s.pd.getD k 0 = t at *
                  generalize s.gr.getD k 0 = u at *
                  cases hin : inR t 1 1000000
                  · rw [hin, Bool.false_and] at HB
                    have HE2 := Lib.hid (HF.out HB.out)
                    clear HB HF
                    go_wp2_with (go_at_call 40; refine (l00In_is hin _).mono ?_; rintro e w' ⟨rfl, rfl⟩)
                    go_ret
                    exact ⟨ret_bool HE2.out.symm, below_drewN HE.out⟩
                  · cases hin2 : inR u 0 1000000
                    · rw [hin, hin2, Bool.and_false] at HB
                      have HE2 := Lib.hid (HF.out HB.out)
                      clear HB HF
                      go_wp2_with (go_at_call 40; first | ((with_reducible refine (l00In_is hin _).mono ?_); rintro e w' ⟨rfl, rfl⟩) | ((with_reducible refine (l00In_is hin2 _).mono ?_); rintro e w' ⟨rfl, rfl⟩))
                      go_ret
                      exact ⟨ret_bool HE2.out.symm, below_drewN HE.out⟩
                    · rw [hin, hin2, Bool.and_true] at HB
                      have HE2 := Lib.hid (allTo_succ HK.out HB.out)
                      clear HB HF
                      go_wp2_with (go_at_call 40; first | ((with_reducible refine (l00In_is hin _).mono ?_); rintro e w' ⟨rfl, rfl⟩) | ((with_reducible refine (l00In_is hin2 _).mono ?_); rintro e w' ⟨rfl, rfl⟩))
                      go_roundw
                      case rel => exact ⟨k + 1, by omega, by go_num, HE2.out, _, rfl⟩
                      case measure => simp [intOf]; omega
                · have HE2 : Hid (soB s = true) := by
                    have h := HK.out
                    rw [show k = s.pd.length by omega] at h
                    unfold Hid soB
                    rw [HG.out, HH.out, h]; rfl
                  have i1 : ¬ (k : Int) < (s.pd.length : Int) := by omega
                  go_wp2
                  go_ret
                  exact ⟨ret_bool HE2.out.symm, below_drewN HE.out⟩
      · have HE2 := Lib.hid (soLen_bad (s := s) (by omega))
        have d4 : ((s.gr.length : Int) != (s.pd.length : Int)) = true := by simp; omega
        have d4n : (s.gr.length != s.pd.length) = true := by simp; omega
        go_enter Tryz.func59, Tryz.ntmps59
        go_wp2_with fail
        go_quiet (fail)
        go_wp2
        go_ret
        exact ⟨ret_bool HE2.out.symm, below_drewN HE.out⟩
    · have HE2 := Lib.hid (soLen_bad (s := s) (by omega))
      have d2 : decide ((30 : Int) < (s.pd.length : Int)) = true := by simp; omega
      have d2n : decide (30 < s.pd.length) = true := by simp; omega
      go_enter Tryz.func59, Tryz.ntmps59
      go_wp2_with fail
      go_quiet (fail)
      go_wp2
      go_ret
      exact ⟨ret_bool HE2.out.symm, below_drewN HE.out⟩
  · have HE2 := Lib.hid (soLen_bad (s := s) (by omega))
    have d1 : decide ((30 : Int) < (s.hd.length : Int)) = true := by simp; omega
    have d1n : decide (30 < s.hd.length) = true := by simp; omega
    go_enter Tryz.func59, Tryz.ntmps59
    go_wp2_with fail
    go_quiet (fail)
    go_wp2
    go_ret
    exact ⟨ret_bool HE2.out.symm, below_drewN HE.out⟩
end Go.Proofs.YtjgafjbccfjojaaGreat
namespace Go.Proofs.YtjgafjbccfjojaaGreat
open Go.RowKit Go.Sort
theorem floor_eq {n d : Int} (hd : 0 < d) : n / d = if n.tmod d < 0 then n.tdiv d - 1 else n.tdiv d := by
  rcases Int.lt_or_le n 0 with h | h
  · have e1 : n.tmod d = -((-n) % d) := by
      rw [← Int.tmod_eq_emod_of_nonneg (by omega), Int.neg_tmod]; omega
    have e2 : n.tdiv d = -((-n) / d) := by
      rw [← Int.tdiv_eq_ediv_of_nonneg (by omega), Int.neg_tdiv]; omega
    have h1 := Int.emod_nonneg (-n) (b := d) (by omega)
    have h2 := Int.emod_lt_of_pos (-n) hd
    have h3 := Int.mul_ediv_add_emod (-n) d
    have h4 := Int.mul_ediv_add_emod n d
    have h5 := Int.emod_nonneg n (b := d) (by omega)
    have h6 := Int.emod_lt_of_pos n hd
    rw [e1, e2]
    generalize (-n) / d = q at *
    generalize (-n) % d = r at *
    generalize n / d = q' at *
    generalize n % d = r' at *
    by_cases hr : r = 0
    · rw [if_neg (by omega)]
      have : d * (q + q') + r' = 0 := by rw [Int.mul_add]; omega
      have hq : q + q' = 0 := by
        rcases Int.lt_trichotomy (q + q') 0 with hh | hh | hh
        · have := Int.mul_le_mul_of_nonneg_left (show q + q' ≤ -1 by omega) (show 0 ≤ d by omega); omega
        · exact hh
        · have := Int.mul_le_mul_of_nonneg_left (show 1 ≤ q + q' by omega) (show 0 ≤ d by omega); omega
      omega
    · rw [if_pos (by omega)]
      have : d * (q + q') + r + r' = 0 := by rw [Int.mul_add]; omega
      have hq : q + q' = -1 := by
        rcases Int.lt_trichotomy (q + q') (-1) with hh | hh | hh
        · have := Int.mul_le_mul_of_nonneg_left (show q + q' ≤ -2 by omega) (show 0 ≤ d by omega); omega
        · exact hh
        · have := Int.mul_le_mul_of_nonneg_left (show 0 ≤ q + q' by omega) (show 0 ≤ d by omega); omega
      omega
  · rw [Int.tmod_eq_emod_of_nonneg h, Int.tdiv_eq_ediv_of_nonneg h, if_neg (by have := Int.emod_nonneg n (b := d) (by omega); omega)]
theorem tdiv_bd {n d M : Int} (hd : 0 < d) (h1 : -M ≤ n) (h2 : n ≤ M) : -M ≤ n.tdiv d ∧ n.tdiv d ≤ M := by
  have h := ediv_bd hd h1 h2
  rcases Int.lt_or_le n 0 with hn | hn
  · have h' := ediv_bd (n := -n) (M := M) hd (by omega) (by omega)
    have e2 : n.tdiv d = -((-n) / d) := by
      rw [← Int.tdiv_eq_ediv_of_nonneg (by omega), Int.neg_tdiv]; omega
    omega
  · rw [Int.tdiv_eq_ediv_of_nonneg hn]; exact h
theorem tmod_bd {n d : Int} (hd : 0 < d) : -d < n.tmod d ∧ n.tmod d < d := by
  have := Int.tmod_lt_of_pos n hd
  have := Int.tmod_lt_of_pos (-n) hd
  rw [Int.neg_tmod] at this
  omega
theorem l02Floor_any (n d : Int) (w : World) (n1 : -9223372036854775806 ≤ n) (n2 : n ≤ 9223372036854775806) (d1 : 1 ≤ d) (d2 : d ≤ 9223372036854775807) :
    Calls Tryz.prog 41 #[.int .i64 n, .int .i64 d] w fun e w' => e = .returned (.int .i64 (n / d)) ∧ w = w' := by
  rw [floor_eq (by omega)]
  obtain ⟨q1, q2⟩ := tdiv_bd (n := n) (d := d) (by omega) n1 n2
  obtain ⟨r1, r2⟩ := tmod_bd (n := n) (d := d) (by omega)
  have d0 : (d == 0) = false := by simp; omega
  generalize hq : n.tdiv d = q at *
  generalize hr : n.tmod d = r at *
  have w1 : IntKind.i64.wrap q = q := IntWalk.i64_in _ (by omega)
  have w2 : IntKind.i64.wrap r = r := IntWalk.i64_in _ (by omega)
  by_cases h : r < 0
  all_goals
    go_enter Tryz.func41, Tryz.ntmps41
    go_wp2
    go_ret
    exact ⟨ret_int (by first | rfl | rw [if_pos h] | rw [if_neg (by omega)]), rfl⟩
end Go.Proofs.YtjgafjbccfjojaaGreat
namespace Go.Proofs.YtjgafjbccfjojaaGreat
open Go.RowKit Go.Sort
theorem floorDiv_any (n d : Int) (w : World) (n1 : -9223372036854775806 ≤ n) (n2 : n ≤ 9223372036854775806) (d1 : 1 ≤ d) (d2 : d ≤ 9223372036854775807) :
    Calls Tryz.prog 69 #[.int .i64 n, .int .i64 d] w fun e w' => e = .returned (.int .i64 (n / d)) ∧ w = w' := by
  rw [floor_eq (by omega)]
  obtain ⟨q1, q2⟩ := tdiv_bd (n := n) (d := d) (by omega) n1 n2
  obtain ⟨r1, r2⟩ := tmod_bd (n := n) (d := d) (by omega)
  have hs : (0 ≤ n → 0 ≤ n.tmod d) ∧ (n < 0 → n.tmod d ≤ 0) := by
    refine ⟨fun h => Int.tmod_nonneg _ h, fun h => ?_⟩
    have := Int.tmod_nonneg d (show 0 ≤ -n by omega)
    rw [Int.neg_tmod] at this
    omega
  have d0 : (d == 0) = false := by simp; omega
  have e2 : decide (d < 0) = false := by simp; omega
  generalize hq : n.tdiv d = q at *
  generalize hr : n.tmod d = r at *
  have w1 : IntKind.i64.wrap q = q := IntWalk.i64_in _ (by omega)
  have w2 : IntKind.i64.wrap r = r := IntWalk.i64_in _ (by omega)
  by_cases h0 : r = 0
  · have h1 : (r != 0) = false := by simpa using h0
    rw [if_neg (show ¬ r < 0 by omega)]
    clear h0 hs
    go_enter Tryz.func69, Tryz.ntmps69
    go_wp2
    go_ret
    exact ⟨rfl, rfl⟩
  · have h1 : (r != 0) = true := by simpa using h0
    by_cases hn : n < 0
    · rw [if_pos (show r < 0 by have := hs.2 hn; omega)]
      have e1 : decide (n < 0) = true := by simpa using hn
      clear h0 hs
      go_enter Tryz.func69, Tryz.ntmps69
      go_wp2
      go_ret
      exact ⟨rfl, rfl⟩
    · rw [if_neg (show ¬ r < 0 by have := hs.1 (by omega); omega)]
      have e1 : decide (n < 0) = false := by simpa using hn
      clear h0 hs
      go_enter Tryz.func69, Tryz.ntmps69
      go_wp2
      go_ret
      exact ⟨rfl, rfl⟩
/-- The short terms of n / d, k at most. -/
def expT : Nat → Int → Int → List Int
  | 0, _, _ => []
  | k + 1, n, d => if d = 0 then [] else n / d :: expT k d (n % d)
def termsOf (n d : Int) : List Int := expT d.toNat n d
theorem expT_zero (k : Nat) (n : Int) : expT k n 0 = [] := by cases k <;> simp [expT]
theorem expT_step {k : Nat} {n d : Int} (h : 1 ≤ d) (hk : d ≤ k) : ∃ j : Nat, k = j + 1 ∧ n % d ≤ j ∧ 0 ≤ n % d ∧ n % d < d ∧ expT k n d = n / d :: expT j d (n % d) := by
  have h1 := Int.emod_nonneg n (b := d) (by omega)
  have h2 := Int.emod_lt_of_pos n (show 0 < d by omega)
  refine ⟨k - 1, by omega, by omega, h1, h2, ?_⟩
  obtain ⟨j, rfl⟩ : ∃ j, k = j + 1 := ⟨k - 1, by omega⟩
  rw [expT, if_neg (by omega)]; rfl
theorem ediv_rng {n d : Int} (d1 : 1 ≤ d) (n1 : -1000000000 ≤ n) (n2 : n ≤ 1000000000) : -1000000000 ≤ n / d ∧ n / d ≤ 1000000000 := ediv_bd (by omega) n1 n2
/-- What holds of a list on its way. -/
def OutI (w : World) (base : Nat) (out : List Int) (v : Value) (wr : World) : Prop :=
  wr.ownsRow base 2 1 v out.length (out.map (Value.int .i64)) ∧ Below w.heap.size w wr ∧ base ≤ wr.heap.size
theorem OutI.push {w : World} {base : Nat} {out : List Int} {v : Value} {wr : World} (h : OutI w base out v wr) (hbase : w.heap.size ≤ base) {t : Int} (v' : Value) (w3 : World) {o : Obj}
    (hown3 : w3.ownsRow base 2 1 v' (out.length + 1) (out.map (Value.int .i64) ++ [.int .i64 t])) (hg : (wr.alloc o).grownBy w3 v.ownBlock) : OutI w base (out ++ [t]) v' w3 := by
  obtain ⟨hown, hbel, hsz⟩ := h
  refine ⟨by simpa using hown3, below_grown (ext_alloc hbel o) (hown.alloc o) hbase hg, ?_⟩
  have := hg.size
  simp at this
  omega
theorem outI_start (w : World) (o : Obj) : OutI w (w.heap.size + 1) [] (.slice (some ⟨w.heap.size + 1, 0, none⟩) 0 0) ((w.alloc o).alloc (.cells #[] 2)) := by
  refine ⟨?_, ext_alloc (ext1 _ _) _, by simp⟩
  have h := World.ownsRow_lit (base := w.heap.size + 1) (e := 2) (size := 1) (w.alloc o) #[] 0 (by simp) (by simp) rfl
  simpa using h
end Go.Proofs.YtjgafjbccfjojaaGreat
