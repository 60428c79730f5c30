/- XTmP XTmW XSoS in one text. No condition but those that each theorem names. -/
import Derived.Test.YtkimmahmbacjpaaSlices
import Derived.Test.YtkimmahmbacjpaaBoxW
import Derived.IntWalk
import Derived.Test.YtkimmahmbacjpaaErrW
/- Sources of terms: the plain law. No condition but those that each theorem names. -/
namespace Go.Proofs.Ytkimmahmbacjpaa
open Go.RowKit Go.Sort

/-- A source: its head, its period, how much each term of the period grows. -/
structure So where
  hd : List Int
  pd : List Int
  gr : List Int
/-- p holds of all numbers below n. -/
def allTo (p : Nat → Bool) : Nat → Bool
  | 0 => true
  | k + 1 => allTo p k && p k
theorem allTo_false {p : Nat → Bool} {k : Nat} (h : p k = false) : ∀ n, k < n → allTo p n = false
  | n + 1, hn => by
    unfold allTo
    rcases Nat.lt_or_ge k n with g | g
    · rw [allTo_false h n g, Bool.false_and]
    · obtain rfl : k = n := by omega
      rw [h, Bool.and_false]
theorem allTo_succ {p : Nat → Bool} {k : Nat} (h : allTo p k = true) (hk : p k = true) : allTo p (k + 1) = true := by rw [allTo, h, hk]; rfl
theorem allTo_at {p : Nat → Bool} {n : Nat} (h : allTo p n = true) {k : Nat} (hk : k < n) : p k = true := by
  cases e : p k
  · rw [allTo_false e n hk] at h; cases h
  · rfl
def hdB (s : So) (k : Nat) : Bool := inR (s.hd.getD k 0) (if k = 0 then -1000000000 else 1) 1000000000
def pgB (s : So) (k : Nat) : Bool := inR (s.pd.getD k 0) 1 1000000 && inR (s.gr.getD k 0) 0 1000000
def soLen (s : So) : Bool := decide (s.hd.length ≤ 30) && (decide (s.pd.length ≤ 30) && (decide (s.gr.length = s.pd.length) && decide (s.hd.length + s.pd.length ≠ 0)))
def soB (s : So) : Bool := soLen s && (allTo (hdB s) s.hd.length && allTo (pgB s) s.pd.length)
theorem soLen_true {s : So} : soLen s = true ↔ s.hd.length ≤ 30 ∧ s.pd.length ≤ 30 ∧ s.gr.length = s.pd.length ∧ s.hd.length + s.pd.length ≠ 0 := by
  unfold soLen; simp only [Bool.and_eq_true, decide_eq_true_eq]
theorem soLen_cases (s : So) : soLen s = true ∨ soLen s = false := by cases soLen s <;> simp
/-- The term at place k. -/
def tmS (s : So) (k : Nat) : Option Int :=
  if k < s.hd.length then some (s.hd.getD k 0)
  else if s.pd.length = 0 then none
  else some (s.pd.getD ((k - s.hd.length) % s.pd.length) 0 + (((k - s.hd.length) / s.pd.length : Nat) : Int) * s.gr.getD ((k - s.hd.length) % s.pd.length) 0)
theorem tmS_zero {s : So} (h : soB s = true) : tmS s 0 ≠ none := by
  unfold soB at h
  rw [Bool.and_eq_true] at h
  obtain ⟨_, _, _, h4⟩ := soLen_true.1 h.1
  unfold tmS
  split
  · simp
  · rw [if_neg (by omega)]; simp
theorem so_at {s : So} (h : soB s = true) : (s.hd.length ≤ 30 ∧ s.pd.length ≤ 30 ∧ s.gr.length = s.pd.length ∧ s.hd.length + s.pd.length ≠ 0) ∧
    (∀ k, k < s.hd.length → (if k = 0 then -1000000000 else 1) ≤ s.hd.getD k 0 ∧ s.hd.getD k 0 ≤ 1000000000) ∧
    ∀ k, k < s.pd.length → (1 ≤ s.pd.getD k 0 ∧ s.pd.getD k 0 ≤ 1000000) ∧ 0 ≤ s.gr.getD k 0 ∧ s.gr.getD k 0 ≤ 1000000 := by
  unfold soB at h
  rw [Bool.and_eq_true, Bool.and_eq_true] at h
  refine ⟨soLen_true.1 h.1, fun k hk => inR_true.1 (allTo_at h.2.1 hk), fun k hk => ?_⟩
  have := allTo_at h.2.2 hk
  unfold pgB at this
  rw [Bool.and_eq_true] at this
  exact ⟨inR_true.1 this.1, inR_true.1 this.2⟩
/-- Terms are not too great. -/
theorem tmS_bd {s : So} (h : soB s = true) {k : Nat} (hk : k ≤ 1000000) {t : Int} (ht : tmS s k = some t) : -1000000000 ≤ t ∧ t ≤ 1000001000000 ∧ (0 < k → 1 ≤ t) := by
  obtain ⟨⟨h1, h2, h3, h4⟩, h5, h6⟩ := so_at h
  unfold tmS at ht
  split at ht
  · rename_i hlt
    injection ht with ht
    have := h5 k hlt
    split at this <;> omega
  · split at ht
    · cases ht
    · rename_i hp
      injection ht with ht
      have hm : (k - s.hd.length) % s.pd.length < s.pd.length := Nat.mod_lt _ (by omega)
      obtain ⟨⟨a1, a2⟩, a3, a4⟩ := h6 _ hm
      have hq : (k - s.hd.length) / s.pd.length ≤ k := Nat.le_trans (Nat.div_le_self _ _) (by omega)
      generalize (k - s.hd.length) / s.pd.length = q at *
      generalize s.gr.getD ((k - s.hd.length) % s.pd.length) 0 = g at *
      generalize s.pd.getD ((k - s.hd.length) % s.pd.length) 0 = p at *
      have b1 : 0 ≤ (q : Int) * g := Int.mul_nonneg (by omega) a3
      have b2 : (q : Int) * g ≤ 1000000 * 1000000 := Int.mul_le_mul (by omega) a4 a3 (by omega)
      omega
theorem getD_of {xs : List Int} {k : Nat} (h : k < xs.length) : xs[k]? = some (xs.getD k 0) := by
  rw [List.getD_eq_getElem?_getD, List.getElem?_eq_getElem h]; rfl
end Go.Proofs.Ytkimmahmbacjpaa

/- Sources of terms: both walks. No condition but those that each theorem names. -/
namespace Go.Proofs.Ytkimmahmbacjpaa
open Go.RowKit Go.Sort

@[reducible] def souV (H : Option Addr) (a ca : Nat) (P : Option Addr) (b cb : Nat) (G : Option Addr) (c cc : Nat) : Value := .agg #[.slice H a ca, .slice P b cb, .slice G c cc]
/-- The three slices read as a source. -/
structure RdSo (w : World) (B : Nat) (H P G : Option Addr) (s : So) : Prop where
  h : Rd (Value.int .i64) w B H s.hd
  p : Rd (Value.int .i64) w B P s.pd
  g : Rd (Value.int .i64) w B G s.gr
theorem RdSo.below {w w' : World} {B : Nat} {H P G : Option Addr} {s : So} (h : RdSo w B H P G s) (hb : Below B w w') : RdSo w' B H P G s := ⟨h.h.below hb, h.p.below hb, h.g.below hb⟩
theorem RdSo.more {w : World} {B B' : Nat} {H P G : Option Addr} {s : So} (h : RdSo w B H P G s) (hB : B ≤ B') : RdSo w B' H P G s := ⟨h.h.more hB, h.p.more hB, h.g.more hB⟩
theorem RdSo.next {w w' : World} {H P G : Option Addr} {s : So} (h : RdSo w w.heap.size H P G s) (hb : Below w.heap.size w w') : RdSo w' w'.heap.size H P G s := (h.below hb).more hb.size
/-- A source in block g. -/
structure SoAt (w : World) (g : Nat) (H P G : Option Addr) (ch cp cg : Nat) (s : So) : Prop where
  c0 : w.cell? ⟨g, 0, none⟩ = some (.slice H s.hd.length ch)
  c1 : w.cell? ⟨g, 1, none⟩ = some (.slice P s.pd.length cp)
  c2 : w.cell? ⟨g, 2, none⟩ = some (.slice G s.gr.length cg)
theorem SoAt.of_box {w : World} {g : Nat} {H P G : Option Addr} {ch cp cg : Nat} {s : So} (h : BoxV g [.slice H s.hd.length ch, .slice P s.pd.length cp, .slice G s.gr.length cg] w) : SoAt w g H P G ch cp cg s := ⟨h.at 0 _ rfl, h.at 1 _ rfl, h.at 2 _ rfl⟩
theorem SoAt.drewN {w : World} {g n : Nat} {H P G : Option Addr} {ch cp cg : Nat} {s : So} (h : SoAt w g H P G ch cp cg s) : SoAt (w.drewN n) g H P G ch cp cg s := ⟨h.c0, h.c1, h.c2⟩
theorem SoAt.below {w w' : World} {g B : Nat} {H P G : Option Addr} {ch cp cg : Nat} {s : So} (h : SoAt w g H P G ch cp cg s) (hb : Below B w w') (hg : g < B) : SoAt w' g H P G ch cp cg s :=
  ⟨(hb.cell (p := ⟨g, 0, none⟩) hg).trans h.c0, (hb.cell (p := ⟨g, 1, none⟩) hg).trans h.c1, (hb.cell (p := ⟨g, 2, none⟩) hg).trans h.c2⟩
theorem below_drewN {B n : Nat} {w w' : World} (h : Below B w w') : Below B w (w'.drewN n) := ⟨h.os, h.tape, h.output, h.size, h.block⟩
theorem sizeT_any (A : Option Addr) (n c : Nat) (w : World) : Calls Try.prog 72 #[.slice A n c] w fun e w' => e = .returned (.int .i64 (n : Int)) ∧ w = w' := by
  go_enter Try.func72, Try.ntmps72
  go_wp2
  go_ret
  exact ⟨rfl, rfl⟩

/-- What decides the tests ahead of the loops. -/
theorem soLen_bad {s : So} (h : ¬ (s.hd.length ≤ 30 ∧ s.pd.length ≤ 30 ∧ s.gr.length = s.pd.length ∧ s.hd.length + s.pd.length ≠ 0)) : soB s = false := by
  have : soLen s = false := by
    cases e : soLen s
    · rfl
    · exact absurd (soLen_true.1 e) h
  unfold soB
  rw [this, Bool.false_and]
end Go.Proofs.Ytkimmahmbacjpaa

/- Sources: the statements' own measuring, copying, comparing and marking of them. No condition but those that each theorem names. -/
namespace Go.Proofs.Ytkimmahmbacjpaa
open Go.RowKit Go.Sort

/-- Two slices lie in different blocks. -/
def DjA (A : Option Addr) (n : Nat) (B : Option Addr) (m : Nat) : Prop := 0 < n → 0 < m → ∃ b o b' o', A = some ⟨b, o, none⟩ ∧ B = some ⟨b', o', none⟩ ∧ b' ≠ b
theorem DjA.of {A B : Option Addr} {xs ys : List Int} {w w' : World} {b b' : Nat} (h : Wr (Value.int .i64) w b A xs) (k : Wr (Value.int .i64) w' b' B ys) (hb : w.heap.size ≤ b') : DjA A xs.length B ys.length := fun h0 h1 => by
  obtain ⟨c, o, e, _, h2, _⟩ := h h0
  obtain ⟨c', o', e', h3, _⟩ := k h1
  exact ⟨c, o, c', o', e, e', by omega⟩
theorem Wr.others {α : Type} {enc : α → Value} {A A' : Option Addr} {n B : Nat} {xs : List α} {w w' : World} (h : Wr enc w B A xs) (o : Others A' n w w') (hs : w'.heap.size = w.heap.size) (hd : DjA A' n A xs.length) : Wr enc w' B A xs := fun hn => by
  obtain ⟨b, off, e, h1, h2, hc, hf⟩ := h hn
  have hb : w'.heap[b]? = w.heap[b]? := o b fun h0 => by
    obtain ⟨c, o, c', o', e1, e2, hne⟩ := hd h0 hn
    rw [e] at e2
    injection e2 with e2
    injection e2 with e2
    exact ⟨c, o, e1, by omega⟩
  exact ⟨b, off, e, h1, by omega, fun j x hx => (World.cell?_of_block (a := ⟨b, off + j, none⟩) hb).trans (hc j x hx), fun j => by have := hf j; simpa only [World.frozen?, hb] using this⟩
/-- Three slices that lie apart in blocks from base on. -/
structure WrSo (w : World) (base : Nat) (H P G : Option Addr) (s : So) : Prop where
  h : Wr (Value.int .i64) w base H s.hd
  p : Wr (Value.int .i64) w base P s.pd
  g : Wr (Value.int .i64) w base G s.gr
  hp : DjA H s.hd.length P s.pd.length
  hg : DjA H s.hd.length G s.gr.length
  pg : DjA P s.pd.length G s.gr.length
theorem WrSo.rd {w : World} {base : Nat} {H P G : Option Addr} {s : So} (h : WrSo w base H P G s) : RdSo w w.heap.size H P G s := ⟨h.h.rd, h.p.rd, h.g.rd⟩
theorem WrSo.next {w w' : World} {base : Nat} {H P G : Option Addr} {s : So} (h : WrSo w base H P G s) (hb : Below w.heap.size w w') : WrSo w' base H P G s := ⟨h.h.below hb, h.p.below hb, h.g.below hb, h.hp, h.hg, h.pg⟩
def So.small (s : So) : Prop := s.hd.length ≤ 1048576 ∧ s.pd.length ≤ 1048576 ∧ s.gr.length ≤ 1048576
def So.sz (s : So) : Nat := s.hd.length + s.pd.length + s.gr.length
/-- What a call returns that makes a source. -/
def RetSou (w : World) (s : So) (e : Ending) (w' : World) : Prop :=
  ∃ A B C a b c, e = .returned (souV A s.hd.length a B s.pd.length b C s.gr.length c) ∧ WrSo w' w.heap.size A B C s ∧ Below w.heap.size w w'
end Go.Proofs.Ytkimmahmbacjpaa
