/- Sources: the statements' own measuring, copying, comparing and marking of them. No condition but those that each theorem names. -/
import Derived.Test.YtgnifhegkjmgaaaTmW
import Derived.Test.YtgnifhegkjmgaaaErrW
namespace Go.Proofs.Ytgnifhegkjmgaaa
open Go.RowKit Go.Sort

/-- Two slices lie in different blocks. -/
def DjA (A : Option Addr) (n : Nat) (B : Option Addr) (m : Nat) : Prop := 0 < n → 0 < m → ∃ b o b' o', A = some ⟨b, o, none⟩ ∧ B = some ⟨b', o', none⟩ ∧ b' ≠ b
theorem DjA.of {A B : Option Addr} {xs ys : List Int} {w w' : World} {b b' : Nat} (h : Wr (Value.int .i64) w b A xs) (k : Wr (Value.int .i64) w' b' B ys) (hb : w.heap.size ≤ b') : DjA A xs.length B ys.length := fun h0 h1 => by
  obtain ⟨c, o, e, _, h2, _⟩ := h h0
  obtain ⟨c', o', e', h3, _⟩ := k h1
  exact ⟨c, o, c', o', e, e', by omega⟩
theorem Wr.others {α : Type} {enc : α → Value} {A A' : Option Addr} {n B : Nat} {xs : List α} {w w' : World} (h : Wr enc w B A xs) (o : Others A' n w w') (hs : w'.heap.size = w.heap.size) (hd : DjA A' n A xs.length) : Wr enc w' B A xs := fun hn => by
  obtain ⟨b, off, e, h1, h2, hc, hf⟩ := h hn
  have hb : w'.heap[b]? = w.heap[b]? := o b fun h0 => by
    obtain ⟨c, o, c', o', e1, e2, hne⟩ := hd h0 hn
    rw [e] at e2
    injection e2 with e2
    injection e2 with e2
    exact ⟨c, o, e1, by omega⟩
  exact ⟨b, off, e, h1, by omega, fun j x hx => (World.cell?_of_block (a := ⟨b, off + j, none⟩) hb).trans (hc j x hx), fun j => by have := hf j; simpa only [World.frozen?, hb] using this⟩
/-- Three slices that lie apart in blocks from base on. -/
structure WrSo (w : World) (base : Nat) (H P G : Option Addr) (s : So) : Prop where
  h : Wr (Value.int .i64) w base H s.hd
  p : Wr (Value.int .i64) w base P s.pd
  g : Wr (Value.int .i64) w base G s.gr
  hp : DjA H s.hd.length P s.pd.length
  hg : DjA H s.hd.length G s.gr.length
  pg : DjA P s.pd.length G s.gr.length
theorem WrSo.rd {w : World} {base : Nat} {H P G : Option Addr} {s : So} (h : WrSo w base H P G s) : RdSo w w.heap.size H P G s := ⟨h.h.rd, h.p.rd, h.g.rd⟩
theorem WrSo.next {w w' : World} {base : Nat} {H P G : Option Addr} {s : So} (h : WrSo w base H P G s) (hb : Below w.heap.size w w') : WrSo w' base H P G s := ⟨h.h.below hb, h.p.below hb, h.g.below hb, h.hp, h.hg, h.pg⟩
def So.small (s : So) : Prop := s.hd.length ≤ 1048576 ∧ s.pd.length ≤ 1048576 ∧ s.gr.length ≤ 1048576
def So.sz (s : So) : Nat := s.hd.length + s.pd.length + s.gr.length
/-- What a call returns that makes a source. -/
def RetSou (w : World) (s : So) (e : Ending) (w' : World) : Prop :=
  ∃ A B C a b c, e = .returned (souV A s.hd.length a B s.pd.length b C s.gr.length c) ∧ WrSo w' w.heap.size A B C s ∧ Below w.heap.size w w'
set_option maxHeartbeats 1000000 in
theorem szSource_any (s : So) (H P G : Option Addr) (ch cp cg : Nat) (w : World) (hl : s.hd.length ≤ maxLen ∧ s.pd.length ≤ maxLen ∧ s.gr.length ≤ maxLen) :
    Calls Try.prog 24 #[souV H s.hd.length ch P s.pd.length cp G s.gr.length cg, .int .i64 1048576] w fun e w' => e = .returned (.int .i64 (if s.sz ≤ 1048576 then 1048576 - (s.sz : Int) else -1)) ∧ Below w.heap.size w w' := by
  obtain ⟨l1, l2, l3⟩ := hl
  have ez : s.sz = s.hd.length + s.pd.length + s.gr.length := rfl
  generalize s.sz = z at *
  generalize s.hd.length = a at *
  generalize s.pd.length = b at *
  generalize s.gr.length = c at *
  have HZ : Hid (z = a + b + c) := ez
  obtain ⟨z1, z2⟩ : z ≤ a + b + c ∧ a + b + c ≤ z := by omega
  clear ez
  unfold souV
  by_cases h1 : (a : Int) ≤ 1048576
  · have H1 : Hid (∀ W, Calls Try.prog 94 #[.slice H a ch, .int .i64 1048576] W fun e w' => e = .returned (.int .i64 (1048576 - (a : Int))) ∧ W = w') := fun W => by
      have := szInt64S_any H ch a 1048576 W l1 (by omega) (by omega)
      rw [if_pos (by omega)] at this
      exact this
    have p1 : 0 ≤ 1048576 - (a : Int) := by omega
    by_cases h2 : (b : Int) ≤ 1048576 - (a : Int)
    · have H2 : Hid (∀ W, Calls Try.prog 94 #[.slice P b cp, .int .i64 (1048576 - (a : Int))] W fun e w' => e = .returned (.int .i64 (1048576 - (a : Int) - (b : Int))) ∧ W = w') := fun W => by
        have := szInt64S_any P cp b (1048576 - (a : Int)) W l2 (by omega) (by omega)
        rw [if_pos (by omega)] at this
        exact this
      have p2 : 0 ≤ 1048576 - (a : Int) - (b : Int) := by omega
      by_cases h3 : (c : Int) ≤ 1048576 - (a : Int) - (b : Int)
      · have H3 : Hid (∀ W, Calls Try.prog 94 #[.slice G c cg, .int .i64 (1048576 - (a : Int) - (b : Int))] W fun e w' => e = .returned (.int .i64 (1048576 - (z : Int))) ∧ W = w') := fun W => by
          have := szInt64S_any G cg c (1048576 - (a : Int) - (b : Int)) W l3 (by omega) (by omega)
          rw [if_pos (by omega), show 1048576 - (a : Int) - (b : Int) - (c : Int) = 1048576 - (z : Int) by omega] at this
          exact this
        rw [if_pos (by omega)]
        have p3 : 0 ≤ 1048576 - (z : Int) := by omega
        go_enter Try.func24, Try.ntmps24
        go_wp2_with fail
        refine (H1.out _).mono ?_
        rintro e w' ⟨rfl, rfl⟩
        go_wp2_with fail
        refine (H2.out _).mono ?_
        rintro e w' ⟨rfl, rfl⟩
        go_wp2_with fail
        refine (H3.out _).mono ?_
        rintro e w' ⟨rfl, rfl⟩
        go_wp2
        go_ret
        exact ⟨rfl, ext1 _ _⟩
      · have H3 : Hid (∀ W, Calls Try.prog 94 #[.slice G c cg, .int .i64 (1048576 - (a : Int) - (b : Int))] W fun e w' => e = .returned (.int .i64 (-1)) ∧ W = w') := fun W => by
          have := szInt64S_any G cg c (1048576 - (a : Int) - (b : Int)) W l3 (by omega) (by omega)
          rw [if_neg (by omega)] at this
          exact this
        rw [if_neg (by omega)]
        go_enter Try.func24, Try.ntmps24
        go_wp2_with fail
        refine (H1.out _).mono ?_
        rintro e w' ⟨rfl, rfl⟩
        go_wp2_with fail
        refine (H2.out _).mono ?_
        rintro e w' ⟨rfl, rfl⟩
        go_wp2_with fail
        refine (H3.out _).mono ?_
        rintro e w' ⟨rfl, rfl⟩
        go_wp2
        go_ret
        exact ⟨rfl, ext1 _ _⟩
    · have H2 : Hid (∀ W, Calls Try.prog 94 #[.slice P b cp, .int .i64 (1048576 - (a : Int))] W fun e w' => e = .returned (.int .i64 (-1)) ∧ W = w') := fun W => by
        have := szInt64S_any P cp b (1048576 - (a : Int)) W l2 (by omega) (by omega)
        rw [if_neg (by omega)] at this
        exact this
      rw [if_neg (by omega)]
      go_enter Try.func24, Try.ntmps24
      go_wp2_with fail
      refine (H1.out _).mono ?_
      rintro e w' ⟨rfl, rfl⟩
      go_wp2_with fail
      refine (H2.out _).mono ?_
      rintro e w' ⟨rfl, rfl⟩
      go_wp2
      go_ret
      exact ⟨rfl, ext1 _ _⟩
  · have H1 : Hid (∀ W, Calls Try.prog 94 #[.slice H a ch, .int .i64 1048576] W fun e w' => e = .returned (.int .i64 (-1)) ∧ W = w') := fun W => by
      have := szInt64S_any H ch a 1048576 W l1 (by omega) (by omega)
      rw [if_neg (by omega)] at this
      exact this
    rw [if_neg (by omega)]
    go_enter Try.func24, Try.ntmps24
    go_wp2_with fail
    refine (H1.out _).mono ?_
    rintro e w' ⟨rfl, rfl⟩
    go_wp2
    go_ret
    exact ⟨rfl, ext1 _ _⟩
set_option maxHeartbeats 4000000 in
theorem toSource_any (s : So) (H P G : Option Addr) (ch cp cg : Nat) (w : World) (hr : RdSo w w.heap.size H P G s) (hl : s.small) :
    Calls Try.prog 26 #[souV H s.hd.length ch P s.pd.length cp G s.gr.length cg] w (RetSou w s) := by
  obtain ⟨l1, l2, l3⟩ := hl
  have HR : Hid (∀ W : World, Below w.heap.size w W → RdSo W W.heap.size H P G s) := fun W hb => hr.next hb
  have HF : Hid (∀ (w' : World) (A B C : Option Addr) (a b c : Nat), WrSo w' w.heap.size A B C s → Below w.heap.size w w' → RetSou w s (.returned (souV A s.hd.length a B s.pd.length b C s.gr.length c)) w') := fun w' A B C a b c h k => ⟨A, B, C, a, b, c, rfl, h, k⟩
  have HW : Hid (∀ (w' : World) (A B C : Option Addr), Wr (Value.int .i64) w' w.heap.size A s.hd → Wr (Value.int .i64) w' w.heap.size B s.pd → Wr (Value.int .i64) w' w.heap.size C s.gr → DjA A s.hd.length B s.pd.length → DjA A s.hd.length C s.gr.length → DjA B s.pd.length C s.gr.length → WrSo w' w.heap.size A B C s) := fun w' A B C a b c d e f => ⟨a, b, c, d, e, f⟩
  have HR1 : Hid (∀ W : World, Below w.heap.size w W → Rd (Value.int .i64) W W.heap.size H s.hd) := fun W hb => (HR.out W hb).h
  have HR2 : Hid (∀ W : World, Below w.heap.size w W → Rd (Value.int .i64) W W.heap.size P s.pd) := fun W hb => (HR.out W hb).p
  have HR3 : Hid (∀ W : World, Below w.heap.size w W → Rd (Value.int .i64) W W.heap.size G s.gr) := fun W hb => (HR.out W hb).g
  clear hr HR
  generalize RetSou w s = Q at *
  generalize s.hd = xs at *
  generalize s.pd = ys at *
  generalize s.gr = zs at *
  unfold souV at *
  go_enter Try.func26, Try.ntmps26
  go_wp2_with fail
  have E0 : Below w.heap.size w (((w.alloc (.cells #[.slice H xs.length ch, .slice P ys.length cp, .slice G zs.length cg] 37)).alloc (.cells #[.slice none 0 0, .slice none 0 0, .slice none 0 0] 41)).alloc (.cells #[.slice none 0 0, .slice none 0 0, .slice none 0 0] 41)) := ext_alloc (ext_alloc (ext1 _ _) _) _
  refine (toInt64S_cap H ch xs _ (HR1.out _ E0) l1).mono ?_
  rintro e w1 ⟨A, rfl, hw1, hb1⟩
  obtain ⟨hc1, hf1⟩ := bcell hb1
  have hy1 := hb1.size
  (try simp at hy1)
  have hz0 : w.heap.size < w1.heap.size := by omega
  have hz1 : w.heap.size + 1 < w1.heap.size := by omega
  have hz2 : w.heap.size + 1 + 1 < w1.heap.size := by omega
  have E1 : Below w.heap.size w w1 := ext_trans E0 hb1
  go_wp2_with fail
  have E2 := ext_set E1 (p := ⟨w.heap.size + 1 + 1, 0, none⟩) (by simp; omega) (.slice A xs.length xs.length)
  refine (toInt64S_cap P cp ys _ (HR2.out _ E2) l2).mono ?_
  rintro e w2 ⟨B, rfl, hw2, hb2⟩
  obtain ⟨hc2, hf2⟩ := bcell hb2
  have hy2 := hb2.size
  (try simp at hy2)
  have hz0' : w.heap.size < w2.heap.size := by omega
  have hz1' : w.heap.size + 1 < w2.heap.size := by omega
  have hz2' : w.heap.size + 1 + 1 < w2.heap.size := by omega
  have E3 := ext_trans E2 hb2
  go_wp2_with fail
  have E4 := ext_set E3 (p := ⟨w.heap.size + 1 + 1, 1, none⟩) (by simp; omega) (.slice B ys.length ys.length)
  refine (toInt64S_cap G cg zs _ (HR3.out _ E4) l3).mono ?_
  rintro e w3 ⟨C, rfl, hw3, hb3⟩
  obtain ⟨hc3, hf3⟩ := bcell hb3
  have hy3 := hb3.size
  (try simp at hy3)
  have hz0'' : w.heap.size < w3.heap.size := by omega
  have hz1'' : w.heap.size + 1 < w3.heap.size := by omega
  have hz2'' : w.heap.size + 1 + 1 < w3.heap.size := by omega
  have E5 := ext_trans E4 hb3
  go_wp2
  have g1 : Wr (Value.int .i64) w1 (w.heap.size + 3) A xs := hw1.more (by simp)
  have g1b : Wr (Value.int .i64) w3 (w.heap.size + 3) A xs := (((g1.setLow (p := ⟨w.heap.size + 1 + 1, 0, none⟩) (by simp) _).below hb2).setLow (p := ⟨w.heap.size + 1 + 1, 1, none⟩) (by simp) _).below hb3
  have g2 : Wr (Value.int .i64) w2 (w.heap.size + 3) B ys := hw2.more (by simp; omega)
  have g2b : Wr (Value.int .i64) w3 (w.heap.size + 3) B ys := (g2.setLow (p := ⟨w.heap.size + 1 + 1, 1, none⟩) (by simp) _).below hb3
  have g3b : Wr (Value.int .i64) w3 (w.heap.size + 3) C zs := hw3.more (by simp; omega)
  have d12 : DjA A xs.length B ys.length := DjA.of hw1 hw2 (by simp)
  have d13 : DjA A xs.length C zs.length := DjA.of hw1 hw3 (by simp; omega)
  have d23 : DjA B ys.length C zs.length := DjA.of hw2 hw3 (by simp)
  have r : ∀ j v, [Value.slice none 0 0, .slice none 0 0, .slice none 0 0][j]? = some v → w3.cell? ⟨w.heap.size + 1, j, none⟩ = some v := fun j v hv => by
    rw [hc3 _ _ (by simpa using hz1'), World.cell?_setCell_other _ _ _ _ (by simp), hc2 _ _ (by simpa using hz1), World.cell?_setCell_other _ _ _ _ (by simp), hc1 _ _ (by simp), cell_three_2, ← Array.getElem?_toList]
    exact hv
  have r0 := r 0 _ rfl
  have r1 := r 1 _ rfl
  have r2 := r 2 _ rfl
  clear r hc1 hc2 hc3 hf1 hf2 hf3
  refine bodyPost_ret (v := .agg #[.slice A xs.length xs.length, .slice B ys.length ys.length, .slice C zs.length zs.length]) (by simp [results, Try.results26, go_sem, r0, r1, r2]) rfl (HF.out _ A B C _ _ _ (HW.out _ A B C ?_ ?_ ?_ d12 d13 d23) ?_)
  · refine Wr.more (B := w.heap.size + 3) ?_ (by omega)
    iterate 3 (refine Wr.setLow ?_ (by simp) _)
    exact g1b.setLow (by simp) _
  · refine Wr.more (B := w.heap.size + 3) ?_ (by omega)
    iterate 3 (refine Wr.setLow ?_ (by simp) _)
    exact g2b.setLow (by simp) _
  · refine Wr.more (B := w.heap.size + 3) ?_ (by omega)
    iterate 3 (refine Wr.setLow ?_ (by simp) _)
    exact g3b.setLow (by simp) _
  · iterate 3 (refine ext_set ?_ (by first | (simp; done) | (simp; omega)) _)
    exact ext_set E5 (by simp; omega) _
set_option maxHeartbeats 1000000 in
theorem eqSource_any (s : So) (H P G H' P' G' : Option Addr) (ch cp cg ch' cp' cg' : Nat) (w : World) (hx : RdSo w w.heap.size H P G s) (hy : RdSo w w.heap.size H' P' G' s) (hl : s.small) :
    Calls Try.prog 28 #[souV H s.hd.length ch P s.pd.length cp G s.gr.length cg, souV H' s.hd.length ch' P' s.pd.length cp' G' s.gr.length cg'] w fun e w' => e = .returned (.bool true) ∧ Below w.heap.size w w' := by
  obtain ⟨l1, l2, l3⟩ := hl
  have hq : ∀ (A B : Option Addr) (c d : Nat) (xs : List Int), xs.length ≤ 1048576 → (∀ W : World, Below w.heap.size w W → Rd (Value.int .i64) W W.heap.size A xs) → (∀ W : World, Below w.heap.size w W → Rd (Value.int .i64) W W.heap.size B xs) → ∀ W : World, Below w.heap.size w W → Calls Try.prog 31 #[.slice A xs.length c, .slice B xs.length d] W fun e w' => e = .returned (.bool true) ∧ Below W.heap.size W w' := fun A B c d xs hl h1 h2 W hb => by
    have := eqInt64S_any A B c d xs xs W (h1 W hb) (h2 W hb) (by unfold maxLen; omega) (by unfold maxLen; omega)
    simpa using this
  have H1 := Lib.hid (hq H H' ch ch' s.hd l1 (fun W hb => (hx.next hb).h) (fun W hb => (hy.next hb).h))
  have H2 := Lib.hid (hq P P' cp cp' s.pd l2 (fun W hb => (hx.next hb).p) (fun W hb => (hy.next hb).p))
  have H3 := Lib.hid (hq G G' cg cg' s.gr l3 (fun W hb => (hx.next hb).g) (fun W hb => (hy.next hb).g))
  clear hq hx hy
  generalize s.hd = xs at *
  generalize s.pd = ys at *
  generalize s.gr = zs at *
  unfold souV
  go_enter Try.func28, Try.ntmps28
  go_wp2_with fail
  have E0 : Below w.heap.size w ((w.alloc (.cells #[.slice H xs.length ch, .slice P ys.length cp, .slice G zs.length cg] 41)).alloc (.cells #[.slice H' xs.length ch', .slice P' ys.length cp', .slice G' zs.length cg'] 41)) := ext_alloc (ext1 _ _) _
  refine (H1.out _ E0).mono ?_
  rintro e w1 ⟨rfl, hb1⟩
  obtain ⟨hc1, hf1⟩ := bcell hb1
  have E1 : Below w.heap.size w w1 := ext_trans E0 hb1
  have hy1 := hb1.size
  (try simp at hy1)
  have hz0 : w.heap.size < w1.heap.size := by omega
  have hz1 : w.heap.size + 1 < w1.heap.size := by omega
  go_wp2_with fail
  refine (H2.out _ E1).mono ?_
  rintro e w2 ⟨rfl, hb2⟩
  obtain ⟨hc2, hf2⟩ := bcell hb2
  have E2 := ext_trans E1 hb2
  have hy2 := hb2.size
  go_wp2_with fail
  refine (H3.out _ E2).mono ?_
  rintro e w3 ⟨rfl, hb3⟩
  go_wp2
  go_ret
  exact ⟨rfl, ext_trans E2 hb3⟩
/-- Blocks outside [base, top) are as they were. -/
structure Mid (base top : Nat) (w w' : World) : Prop where
  below : Below base w w'
  size : w'.heap.size = w.heap.size
  far : ∀ B, top ≤ B → w'.heap[B]? = w.heap[B]?
theorem Mid.refl (base top : Nat) (w : World) : Mid base top w w := ⟨Below.refl _ _, rfl, fun _ _ => rfl⟩
theorem Mid.trans {base top : Nat} {a b c : World} (h : Mid base top a b) (k : Mid base top b c) : Mid base top a c := ⟨h.below.trans k.below, k.size.trans h.size, fun B hB => (k.far B hB).trans (h.far B hB)⟩
theorem Mid.of {A : Option Addr} {xs : List Int} {base top : Nat} {v w w' : World} (h : Wr (Value.int .i64) v base A xs) (ht : v.heap.size ≤ top) (hb : Below base w w') (hs : w'.heap.size = w.heap.size) (ho : Others A xs.length w w') : Mid base top w w' := ⟨hb, hs, fun B hB => ho B (h.apart (by omega))⟩
theorem Mid.wr {α : Type} {enc : α → Value} {A : Option Addr} {xs : List α} {base top B : Nat} {w w' : World} (h : Mid base top w w') (hw : Wr enc w B A xs) (hB : top ≤ B) : Wr enc w' B A xs := fun hn => by
  obtain ⟨b, off, e, h1, h2, hc, hf⟩ := hw hn
  have hb := h.far b (by omega)
  exact ⟨b, off, e, h1, by have := h.size; omega, fun j x hx => (World.cell?_of_block (a := ⟨b, off + j, none⟩) hb).trans (hc j x hx), fun j => by have := hf j; simpa only [World.frozen?, hb] using this⟩
set_option maxHeartbeats 1000000 in
theorem markSource_any (s : So) (H P G : Option Addr) (ch cp cg base top : Nat) (v w : World) (hv : WrSo v base H P G s) (hv2 : v.heap.size ≤ top) (hw : WrSo w base H P G s) (hl : s.small) (hb0 : base ≤ w.heap.size) (ht : top ≤ w.heap.size) :
    Calls Try.prog 32 #[souV H s.hd.length ch P s.pd.length cp G s.gr.length cg, .int .i64 1] w fun e w' => ∃ k : Nat, e = .returned (.int .i64 (k : Int)) ∧ k ≤ 10000000 ∧ Below base w w' ∧ w.heap.size ≤ w'.heap.size ∧ ∀ B, top ≤ B → B < w.heap.size → w'.heap[B]? = w.heap[B]? := by
  obtain ⟨l1, l2, l3⟩ := hl
  obtain ⟨v1, v2, v3, _, _, _⟩ := hv
  have HV := Lib.hid (And.intro v1 (And.intro v2 v3))
  clear v1 v2 v3
  have HW : Hid (WrSo (w.alloc (.cells #[.slice H s.hd.length ch, .slice P s.pd.length cp, .slice G s.gr.length cg] 41)) base H P G s) := hw.next (ext1 _ _)
  obtain ⟨d12, d13, d23⟩ : DjA H s.hd.length P s.pd.length ∧ DjA H s.hd.length G s.gr.length ∧ DjA P s.pd.length G s.gr.length := ⟨hw.hp, hw.hg, hw.pg⟩
  have HW1 := Lib.hid HW.out.h
  have HW2 := Lib.hid HW.out.p
  have HW3 := Lib.hid HW.out.g
  have D := Lib.hid (And.intro d12 (And.intro d13 d23))
  clear hw HW d12 d13 d23
  generalize s.hd = xs at *
  generalize s.pd = ys at *
  generalize s.gr = zs at *
  have lt0 : v.heap.size ≤ w.heap.size := by omega
  have hcb : ∀ j, (w.alloc (.cells #[.slice H xs.length ch, .slice P ys.length cp, .slice G zs.length cg] 41)).cell? ⟨w.heap.size, j, none⟩ = #[.slice H xs.length ch, .slice P ys.length cp, .slice G zs.length cg][j]? := fun j => cell_one _ _ _ _
  have HC := Lib.hid hcb
  have HE := Lib.hid (ext1 w (.cells #[.slice H xs.length ch, .slice P ys.length cp, .slice G zs.length cg] 41))
  have hz : (w.alloc (.cells #[.slice H xs.length ch, .slice P ys.length cp, .slice G zs.length cg] 41)).heap.size = w.heap.size + 1 := by simp
  have HZ := Lib.hid hz
  clear hcb hz
  unfold souV
  go_enter Try.func32, Try.ntmps32
  go_wp2_with fail
  generalize w.alloc (.cells #[.slice H xs.length ch, .slice P ys.length cp, .slice G zs.length cg] 41) = W at *
  refine (markInt64S_any H ch xs base 1 W HW1.out (by omega) (by omega) (by omega)).mono ?_
  rintro e w1 ⟨rfl, hx1, hb1, hs1, ho1⟩
  have M1 : Mid base top W w1 := Mid.of HV.out.1 hv2 hb1 hs1 ho1
  have c1 : w1.cell? ⟨w.heap.size, 1, none⟩ = some (.slice P ys.length cp) := (World.cell?_of_block (a := ⟨w.heap.size, 1, none⟩) (M1.far _ ht)).trans (HC.out 1)
  have HW2 := Lib.hid (HW2.out.others ho1 hs1 D.out.1)
  have HW3 := Lib.hid (HW3.out.others ho1 hs1 D.out.2.1)
  have HM := Lib.hid M1
  clear hx1 hb1 hs1 ho1 M1 HW1
  go_wp2_with fail
  refine (markInt64S_any P cp ys base _ w1 HW2.out (by omega) (by omega) (by omega)).mono ?_
  rintro e w2 ⟨rfl, hx1, hb1, hs1, ho1⟩
  have M1 : Mid base top W w2 := HM.out.trans (Mid.of HV.out.2.1 hv2 hb1 hs1 ho1)
  have c2 : w2.cell? ⟨w.heap.size, 2, none⟩ = some (.slice G zs.length cg) := (World.cell?_of_block (a := ⟨w.heap.size, 2, none⟩) (M1.far _ ht)).trans (HC.out 2)
  have HW3 := Lib.hid (HW3.out.others ho1 hs1 D.out.2.2)
  have HM := Lib.hid M1
  clear hx1 hb1 hs1 ho1 M1 HW2 c1
  go_wp2_with fail
  refine (markInt64S_any G cg zs base _ w2 HW3.out (by omega) (by omega) (by omega)).mono ?_
  rintro e w3 ⟨rfl, hx1, hb1, hs1, ho1⟩
  have HM := Lib.hid (HM.out.trans (Mid.of HV.out.2.2 hv2 hb1 hs1 ho1))
  clear hx1 hb1 hs1 ho1 c2
  go_wp2
  go_ret
  refine ⟨1 + xs.length + ys.length + zs.length, ret_int (by omega), by omega, (HE.out.mono hb0).trans HM.out.below, ?_, fun B h1 h2 => (HM.out.far B h1).trans (HE.out.block B h2)⟩
  have := HM.out.size
  have := HZ.out
  omega
end Go.Proofs.Ytgnifhegkjmgaaa
