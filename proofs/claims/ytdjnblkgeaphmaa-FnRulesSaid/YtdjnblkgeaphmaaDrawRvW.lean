/- What the statement on rules draws: drifts. No condition but those that each theorem names. -/
import Derived.Test.YtdjnblkgeaphmaaDrawRuW
import Derived.Deep.RegionHeld3
namespace Go.Proofs.Ytdjnblkgeaphmaa
open Go.RowKit Go.Sort

theorem BoxV.keepK {g s : Nat} {vs : List Value} {W W' : World} (h : BoxV g vs W) (k : Keep s W W') (hg : g ≠ s) : BoxV g vs W' :=
  ⟨fun j v hv => (k.cell hg h.lt).trans (h.c j v hv), fun j => (k.frozen hg h.lt).trans (h.f j), Nat.lt_of_lt_of_le h.lt k.2.1⟩
/-- The state of a draw with two results: the source behind both. -/
structure SD (N : Nat) (w W : World) : Prop where
  src : Src (w.heap.size + 2) (w.heap.size + 2) N W
  r : BoxV w.heap.size [.int .i64 0, .int .i64 0, .int .i64 0] W
  f : BoxV (w.heap.size + 1) [.int .i64 0, .int .i64 0] W
  bel : Below w.heap.size w W
section
variable {N M : Nat} {w W W' : World}
theorem SD.keep (t : SD N w W) (hs : Src (w.heap.size + 2) (w.heap.size + 2) M W') (k : Keep (w.heap.size + 2) W W') : SD M w W' :=
  ⟨hs, t.r.keepK k (by omega), t.f.keepK k (by omega), t.bel.trans (k.1.mono (by omega))⟩
theorem SD.next (t : SD N w W) (hb : Below W.heap.size W W') : SD N w W' := t.keep (t.src.next hb) (Keep.of hb t.src.lt)
theorem SD.start {T U : TypeId} (hs : Src (((w.alloc (.cells #[.int .i64 0, .int .i64 0, .int .i64 0] T)).alloc (.cells #[.int .i64 0, .int .i64 0] U)).heap.size) (((w.alloc (.cells #[.int .i64 0, .int .i64 0, .int .i64 0] T)).alloc (.cells #[.int .i64 0, .int .i64 0] U)).heap.size) N W)
    (hb : Below ((w.alloc (.cells #[.int .i64 0, .int .i64 0, .int .i64 0] T)).alloc (.cells #[.int .i64 0, .int .i64 0] U)).heap.size ((w.alloc (.cells #[.int .i64 0, .int .i64 0, .int .i64 0] T)).alloc (.cells #[.int .i64 0, .int .i64 0] U)) W) : SD N w W :=
  ⟨by simpa using hs, ((BoxV.new w #[.int .i64 0, .int .i64 0, .int .i64 0] T).alloc _).next hb, by
    have h := (BoxV.new (w.alloc (.cells #[.int .i64 0, .int .i64 0, .int .i64 0] T)) #[.int .i64 0, .int .i64 0] U).next hb
    simpa using h, ext_trans (ext_alloc (ext1 _ _) _) hb⟩
end
/-- A rule's and a fraction's cells, held while others are written. -/
@[reducible] def S5 (h1 h2 : Nat) (l c s a b : Int) (W : World) : Prop := W.cell? ⟨h1, 0, none⟩ = some (.int .i64 l) ∧ W.cell? ⟨h1, 1, none⟩ = some (.int .i64 c) ∧ W.cell? ⟨h1, 2, none⟩ = some (.int .i64 s) ∧ W.cell? ⟨h2, 0, none⟩ = some (.int .i64 a) ∧ W.cell? ⟨h2, 1, none⟩ = some (.int .i64 b)
theorem S5.set {h1 h2 i j : Nat} {u : Value} {l c s a b : Int} {W : World} (t : S5 h1 h2 l c s a b W) (hi : h1 ≠ i) (hj : h2 ≠ i) : S5 h1 h2 l c s a b (W.setCell ⟨i, j, none⟩ u) := by
  have o : ∀ k m, k ≠ i → (W.setCell ⟨i, j, none⟩ u).cell? ⟨k, m, none⟩ = W.cell? ⟨k, m, none⟩ := fun k m hk => World.cell?_setCell_other _ _ _ _ (by intro e; injection e; omega)
  exact ⟨(o _ 0 hi).trans t.1, (o _ 1 hi).trans t.2.1, (o _ 2 hi).trans t.2.2.1, (o _ 0 hj).trans t.2.2.2.1, (o _ 1 hj).trans t.2.2.2.2⟩
theorem five_f {w : World} {b f : Nat} {x y : Value} (hb : b ≠ f) (h0 : w.cell? ⟨f, 0, none⟩ = some x) (h1 : w.cell? ⟨f, 1, none⟩ = some y) :
    (∀ p q r v, ((((w.setCell ⟨b, 0, none⟩ p).setCell ⟨b, 1, none⟩ q).setCell ⟨b, 2, none⟩ r).setCell ⟨f, 0, none⟩ v).cell? ⟨f, 0, none⟩ = some v) ∧
    (∀ p q r u v, (((((w.setCell ⟨b, 0, none⟩ p).setCell ⟨b, 1, none⟩ q).setCell ⟨b, 2, none⟩ r).setCell ⟨f, 0, none⟩ u).setCell ⟨f, 1, none⟩ v).cell? ⟨f, 1, none⟩ = some v) := by
  have o : ∀ (W : World) (j m : Nat) (u : Value), (W.setCell ⟨b, j, none⟩ u).cell? ⟨f, m, none⟩ = W.cell? ⟨f, m, none⟩ := fun W j m u => World.cell?_setCell_other _ _ _ _ (by intro e; injection e; omega)
  refine ⟨fun p q r v => World.cell?_setCell_same (v := v) _ _ ((o _ _ _ _).trans ((o _ _ _ _).trans ((o _ _ _ _).trans h0))), fun p q r u v => World.cell?_setCell_same (v := v) (u := y) _ _ ?_⟩
  refine (World.cell?_setCell_other _ ⟨f, 0, none⟩ ⟨f, 1, none⟩ _ (by simp)).trans ((o _ _ _ _).trans ((o _ _ _ _).trans ((o _ _ _ _).trans ?_)))
  exact h1
@[reducible] def S3 (h1 : Nat) (l c s : Int) (W : World) : Prop := W.cell? ⟨h1, 0, none⟩ = some (.int .i64 l) ∧ W.cell? ⟨h1, 1, none⟩ = some (.int .i64 c) ∧ W.cell? ⟨h1, 2, none⟩ = some (.int .i64 s)
theorem S3.set {h1 i j : Nat} {u : Value} {l c s : Int} {W : World} (t : S3 h1 l c s W) (hi : h1 ≠ i) : S3 h1 l c s (W.setCell ⟨i, j, none⟩ u) := by
  have o : ∀ m, (W.setCell ⟨i, j, none⟩ u).cell? ⟨h1, m, none⟩ = W.cell? ⟨h1, m, none⟩ := fun m => World.cell?_setCell_other _ _ _ _ (by intro e; injection e; omega)
  exact ⟨(o 0).trans t.1, (o 1).trans t.2.1, (o 2).trans t.2.2⟩
/-- What the draw returns. -/
def RetDr (w : World) (e : Ending) (w' : World) : Prop := ∃ l c s a b y : Int, e = .returned (.tuple #[ruleV l c s, fracV a b, .int .i64 y]) ∧ Below w.heap.size w w'
def RetYr (w : World) (e : Ending) (w' : World) : Prop := ∃ l c s a b : Int, e = .returned (.tuple #[ruleV l c s, fracV a b]) ∧ Below w.heap.size w w'
set_option maxRecDepth 100000 in
set_option maxHeartbeats 2000000 in
theorem drawDriftOf_any (A : Option Addr) (n c : Nat) (w : World) (h : Bytes w A n) :
    Calls Try.prog 32 #[.slice A n c] w (RetDr w) := by
  have H := Lib.hid h
  clear h
  go_enter Try.func32, Try.ntmps32
  go_wp2_with fail
  refine (l00From_bytes A n c _ (H.out.next (ext_alloc (ext1 _ _) _))).mono ?_
  rintro e w1 ⟨rfl, S1, hb1⟩
  have T := Lib.hid (SD.start S1 hb1)
  simp only [World.size_alloc]
  clear S1 hb1
  go_wp2_with fail
  refine (l24Draw_any _ _ 0 _ T.out.src (by omega)).mono ?_
  rintro e w2 ⟨l, c', s, rfl, S2, K2⟩
  have T := Lib.hid (T.out.keep S2 K2)
  have R := Lib.hid (BoxV.new w2 #[.int .i64 l, .int .i64 c', .int .i64 s] 60)
  have h2z : w.heap.size + 2 < w2.heap.size := T.out.src.lt
  have T := Lib.hid (T.out.next (ext1 w2 (.cells #[.int .i64 l, .int .i64 c', .int .i64 s] 60)))
  clear S2 K2
  go_wp2_with fail
  generalize w2.alloc (.cells #[.int .i64 l, .int .i64 c', .int .i64 s] 60) = W2 at *
  generalize w2.heap.size = h1 at *
  refine (l24Length_any _ _ _ _ T.out.src (by omega)).mono ?_
  rintro e w3 ⟨a, b, rfl, S3, K3⟩
  have T := Lib.hid (T.out.keep S3 K3)
  have R := Lib.hid ((R.out.keepK K3 (by omega)).alloc (.cells #[.int .i64 a, .int .i64 b] 25))
  have F := Lib.hid (BoxV.new w3 #[.int .i64 a, .int .i64 b] 25)
  have h3z : w.heap.size + 2 < w3.heap.size := T.out.src.lt
  have T := Lib.hid (T.out.next (ext1 w3 (.cells #[.int .i64 a, .int .i64 b] 25)))
  clear S3 K3
  go_wp2_with fail
  generalize w3.alloc (.cells #[.int .i64 a, .int .i64 b] 25) = W3 at *
  generalize w3.heap.size = h2 at *
  have X5 : S5 h1 h2 l c' s a b W3.drew := ⟨R.out.at 0 _ rfl, R.out.at 1 _ rfl, R.out.at 2 _ rfl, F.out.at 0 _ rfl, F.out.at 1 _ rfl⟩
  have HKK : Hid (∀ W : World, Keep (w.heap.size + 2) W3.drew W → S5 h1 h2 l c' s a b W) := fun W k => ⟨(R.out.drew.keepK k (by omega)).at 0 _ rfl, (R.out.drew.keepK k (by omega)).at 1 _ rfl, (R.out.drew.keepK k (by omega)).at 2 _ rfl, (F.out.drew.keepK k (by omega)).at 0 _ rfl, (F.out.drew.keepK k (by omega)).at 1 _ rfl⟩
  have HTK : Hid (∀ (M : Nat) (W : World), Src (w.heap.size + 2) (w.heap.size + 2) M W → Keep (w.heap.size + 2) W3.drew W → SD M w W) := fun M W hs k => (T.out.next (ext_drew (Below.refl _ _))).keep hs k
  have HS := Lib.hid T.out.src
  have hi1 : h1 ≠ w.heap.size := by omega
  have hi2 : h2 ≠ w.heap.size := by omega
  have hj1 : h1 ≠ w.heap.size + 1 := by omega
  have hj2 : h2 ≠ w.heap.size + 1 := by omega
  clear T R F
  go_region_held3 (fun w' => w'.cell? ⟨h1, 0, none⟩ = some (.int .i64 l) ∧ w'.cell? ⟨h1, 1, none⟩ = some (.int .i64 c') ∧ w'.cell? ⟨h1, 2, none⟩ = some (.int .i64 s) ∧ w'.cell? ⟨h2, 0, none⟩ = some (.int .i64 a) ∧ w'.cell? ⟨h2, 1, none⟩ = some (.int .i64 b))
    (first | with_reducible exact X5 | with_reducible exact HKK.out _ K4 | with_reducible exact S5.set (S5.set (S5.set (HKK.out _ K4) hi1 hi2) hi1 hi2) hi1 hi2 | with_reducible exact S5.set (S5.set (HKK.out _ K4) hj1 hj2) hj1 hj2 | with_reducible exact S5.set (S5.set (S5.set (S5.set (S5.set (HKK.out _ K4) hi1 hi2) hi1 hi2) hi1 hi2) hj1 hj2) hj1 hj2 | with_reducible exact S5.set (S5.set (S5.set (S5.set (S5.set (HKK.out _ K4) hj1 hj2) hj1 hj2) hi1 hi2) hi1 hi2) hi1 hi2)
    (first | (go_at_call 120; (with_reducible refine (l24DrawYear_any (w.heap.size + 2) (w.heap.size + 2) _ _ (HS.out.next (ext_drew (Below.refl _ _))) (by omega)).mono ?_); rintro e w4 ⟨y, rfl, S4, K4⟩; have TD := Lib.hid (HTK.out _ _ S4 K4); have r0 := TD.out.r.at 0 _ rfl; have r1 := TD.out.r.at 1 _ rfl; have r2 := TD.out.r.at 2 _ rfl; have rf0 := TD.out.r.f 0; have rf1 := TD.out.r.f 1; have rf2 := TD.out.r.f 2; have f0 := TD.out.f.at 0 _ rfl; have f1 := TD.out.f.at 1 _ rfl; have ff0 := TD.out.f.f 0; have ff1 := TD.out.f.f 1))
  obtain ⟨s0, s1, s2⟩ := set_three r0 r1 r2
  obtain ⟨e0, e1⟩ := five_f (b := w.heap.size) (by omega) f0 f1
  have HE : Hid (∀ x y z u v, Below w.heap.size w (((((w4.setCell ⟨w.heap.size, 0, none⟩ x).setCell ⟨w.heap.size, 1, none⟩ y).setCell ⟨w.heap.size, 2, none⟩ z).setCell ⟨w.heap.size + 1, 0, none⟩ u).setCell ⟨w.heap.size + 1, 1, none⟩ v)) := fun x y z u v => ext_set (ext_set (ext_set (ext_set (ext_set TD.out.bel (Nat.le_refl _) _) (Nat.le_refl _) _) (Nat.le_refl _) _) (Nat.le_succ _) _) (Nat.le_succ _) _
  clear TD
  go_wp2
  refine bodyPost_ret ?_ rfl ⟨l, c', s, a, b, y, rfl, HE.out _ _ _ _ _⟩
  simp [results, Try.results32, go_sem, s0, s1, s2, e0, e1]
set_option maxRecDepth 100000 in
set_option maxHeartbeats 1000000 in
theorem drawYearsToDrift_any (A : Option Addr) (n c : Nat) (w : World) (h : Bytes w A n) :
    Calls Try.prog 35 #[.slice A n c] w (RetYr w) := by
  have H := Lib.hid h
  clear h
  go_enter Try.func35, Try.ntmps35
  go_wp2_with fail
  refine (l00From_bytes A n c _ (H.out.next (ext_alloc (ext1 _ _) _))).mono ?_
  rintro e w1 ⟨rfl, S1, hb1⟩
  have T := Lib.hid (SD.start S1 hb1)
  simp only [World.size_alloc]
  clear S1 hb1
  go_wp2_with fail
  refine (l24Draw_any _ _ 0 _ T.out.src (by omega)).mono ?_
  rintro e w2 ⟨l, c', s, rfl, S2, K2⟩
  have T := Lib.hid (T.out.keep S2 K2)
  have R := Lib.hid (BoxV.new w2 #[.int .i64 l, .int .i64 c', .int .i64 s] 60)
  have h2z : w.heap.size + 2 < w2.heap.size := T.out.src.lt
  have T := Lib.hid (T.out.next (ext1 w2 (.cells #[.int .i64 l, .int .i64 c', .int .i64 s] 60)))
  clear S2 K2
  have y0 := R.out.at 0 _ rfl
  have y1 := R.out.at 1 _ rfl
  have y2 := R.out.at 2 _ rfl
  go_wp2_with fail
  generalize w2.alloc (.cells #[.int .i64 l, .int .i64 c', .int .i64 s] 60) = W2 at *
  generalize w2.heap.size = h1 at *
  refine (l24Ok_any l c' s _).mono ?_
  rintro e w3 ⟨rfl, hb3⟩
  have T := Lib.hid (T.out.next hb3)
  have R := Lib.hid (R.out.next hb3)
  clear hb3 y0 y1 y2
  cases ho : ruleOk l c' s
  · clear ho
    have X3 : S3 h1 l c' s w3.drew := ⟨R.out.at 0 _ rfl, R.out.at 1 _ rfl, R.out.at 2 _ rfl⟩
    have hi1 : h1 ≠ w.heap.size := by omega
    have hj1 : h1 ≠ w.heap.size + 1 := by omega
    have HKK : Hid (∀ W : World, Keep (w.heap.size + 2) w3.drew W → S3 h1 l c' s W) := fun W k => ⟨(R.out.drew.keepK k (by omega)).at 0 _ rfl, (R.out.drew.keepK k (by omega)).at 1 _ rfl, (R.out.drew.keepK k (by omega)).at 2 _ rfl⟩
    have HTK : Hid (∀ (M : Nat) (W : World), Src (w.heap.size + 2) (w.heap.size + 2) M W → Keep (w.heap.size + 2) w3.drew W → SD M w W) := fun M W hs k => (T.out.next (ext_drew (Below.refl _ _))).keep hs k
    have HS := Lib.hid T.out.src
    have HZ : Hid (w.heap.size + 2 < w3.heap.size) := T.out.src.lt
    clear T R
    go_wp2_with fail
    go_region_held3 (fun w' => w'.cell? ⟨h1, 0, none⟩ = some (.int .i64 l) ∧ w'.cell? ⟨h1, 1, none⟩ = some (.int .i64 c') ∧ w'.cell? ⟨h1, 2, none⟩ = some (.int .i64 s))
      (first | with_reducible exact X3 | with_reducible exact HKK.out _ K9 | with_reducible exact S3.set (S3.set (S3.set (HKK.out _ K9) hi1) hi1) hi1 | with_reducible exact S3.set (S3.set (HKK.out _ K9) hj1) hj1 | with_reducible exact S3.set (S3.set (S3.set (S3.set (S3.set (HKK.out _ K9) hi1) hi1) hi1) hj1) hj1 | with_reducible exact S3.set (S3.set (S3.set (S3.set (S3.set (HKK.out _ K9) hj1) hj1) hi1) hi1) hi1)
      (first | (go_at_call 105; (with_reducible refine (l24Length_any (w.heap.size + 2) (w.heap.size + 2) _ _ (HS.out.next (ext_drew (Below.refl _ _))) (by omega)).mono ?_); rintro e w9 ⟨a, b, rfl, S9, K9⟩; have TD := Lib.hid (HTK.out _ _ S9 K9); have r0 := TD.out.r.at 0 _ rfl; have r1 := TD.out.r.at 1 _ rfl; have r2 := TD.out.r.at 2 _ rfl; have rf0 := TD.out.r.f 0; have rf1 := TD.out.r.f 1; have rf2 := TD.out.r.f 2; have f0 := TD.out.f.at 0 _ rfl; have f1 := TD.out.f.at 1 _ rfl; have ff0 := TD.out.f.f 0; have ff1 := TD.out.f.f 1))
    obtain ⟨s0, s1, s2⟩ := set_three r0 r1 r2
    obtain ⟨e0, e1⟩ := five_f (b := w.heap.size) (by omega) f0 f1
    have HE : Hid (∀ x y z u v, Below w.heap.size w (((((w9.setCell ⟨w.heap.size, 0, none⟩ x).setCell ⟨w.heap.size, 1, none⟩ y).setCell ⟨w.heap.size, 2, none⟩ z).setCell ⟨w.heap.size + 1, 0, none⟩ u).setCell ⟨w.heap.size + 1, 1, none⟩ v)) := fun x y z u v => ext_set (ext_set (ext_set (ext_set (ext_set TD.out.bel (Nat.le_refl _) _) (Nat.le_refl _) _) (Nat.le_refl _) _) (Nat.le_succ _) _) (Nat.le_succ _) _
    clear TD
    go_wp2
    refine bodyPost_ret ?_ rfl ⟨l, c', s, a, b, rfl, HE.out _ _ _ _ _⟩
    simp [results, Try.results35, go_sem, s0, s1, s2, e0, e1]
  · obtain ⟨c1, c2, l1, l2, _, _⟩ := ruleOk_true.1 ho
    clear ho
    have y0 := R.out.at 0 _ rfl
    have y1 := R.out.at 1 _ rfl
    have y2 := R.out.at 2 _ rfl
    by_cases hlt : l < c'
    · have h3z : w.heap.size + 2 < w3.heap.size := T.out.src.lt
      go_wp2_with fail
      refine (srcOne_any _ _ _ 8 _ T.out.src (by omega) (by omega)).mono ?_
      rintro e w4 ⟨bb, rfl, S4, K4⟩
      have T := Lib.hid (T.out.keep S4 K4)
      have R := Lib.hid (R.out.keepK K4 (by omega))
      clear S4 K4 y0 y1 y2
      cases bb
      · skip
        have X3 : S3 h1 l c' s w4.drew := ⟨R.out.at 0 _ rfl, R.out.at 1 _ rfl, R.out.at 2 _ rfl⟩
        have hi1 : h1 ≠ w.heap.size := by omega
        have hj1 : h1 ≠ w.heap.size + 1 := by omega
        have HKK : Hid (∀ W : World, Keep (w.heap.size + 2) w4.drew W → S3 h1 l c' s W) := fun W k => ⟨(R.out.drew.keepK k (by omega)).at 0 _ rfl, (R.out.drew.keepK k (by omega)).at 1 _ rfl, (R.out.drew.keepK k (by omega)).at 2 _ rfl⟩
        have HTK : Hid (∀ (M : Nat) (W : World), Src (w.heap.size + 2) (w.heap.size + 2) M W → Keep (w.heap.size + 2) w4.drew W → SD M w W) := fun M W hs k => (T.out.next (ext_drew (Below.refl _ _))).keep hs k
        have HS := Lib.hid T.out.src
        have HZ : Hid (w.heap.size + 2 < w4.heap.size) := T.out.src.lt
        clear T R
        go_wp2_with fail
        go_region_held3 (fun w' => w'.cell? ⟨h1, 0, none⟩ = some (.int .i64 l) ∧ w'.cell? ⟨h1, 1, none⟩ = some (.int .i64 c') ∧ w'.cell? ⟨h1, 2, none⟩ = some (.int .i64 s))
          (first | with_reducible exact X3 | with_reducible exact HKK.out _ K9 | with_reducible exact S3.set (S3.set (S3.set (HKK.out _ K9) hi1) hi1) hi1 | with_reducible exact S3.set (S3.set (HKK.out _ K9) hj1) hj1 | with_reducible exact S3.set (S3.set (S3.set (S3.set (S3.set (HKK.out _ K9) hi1) hi1) hi1) hj1) hj1 | with_reducible exact S3.set (S3.set (S3.set (S3.set (S3.set (HKK.out _ K9) hj1) hj1) hi1) hi1) hi1)
          (first | (go_at_call 105; (with_reducible refine (l24Length_any (w.heap.size + 2) (w.heap.size + 2) _ _ (HS.out.next (ext_drew (Below.refl _ _))) (by omega)).mono ?_); rintro e w9 ⟨a, b, rfl, S9, K9⟩; have TD := Lib.hid (HTK.out _ _ S9 K9); have r0 := TD.out.r.at 0 _ rfl; have r1 := TD.out.r.at 1 _ rfl; have r2 := TD.out.r.at 2 _ rfl; have rf0 := TD.out.r.f 0; have rf1 := TD.out.r.f 1; have rf2 := TD.out.r.f 2; have f0 := TD.out.f.at 0 _ rfl; have f1 := TD.out.f.at 1 _ rfl; have ff0 := TD.out.f.f 0; have ff1 := TD.out.f.f 1))
        obtain ⟨s0, s1, s2⟩ := set_three r0 r1 r2
        obtain ⟨e0, e1⟩ := five_f (b := w.heap.size) (by omega) f0 f1
        have HE : Hid (∀ x y z u v, Below w.heap.size w (((((w9.setCell ⟨w.heap.size, 0, none⟩ x).setCell ⟨w.heap.size, 1, none⟩ y).setCell ⟨w.heap.size, 2, none⟩ z).setCell ⟨w.heap.size + 1, 0, none⟩ u).setCell ⟨w.heap.size + 1, 1, none⟩ v)) := fun x y z u v => ext_set (ext_set (ext_set (ext_set (ext_set TD.out.bel (Nat.le_refl _) _) (Nat.le_refl _) _) (Nat.le_refl _) _) (Nat.le_succ _) _) (Nat.le_succ _) _
        clear TD
        go_wp2
        refine bodyPost_ret ?_ rfl ⟨l, c', s, a, b, rfl, HE.out _ _ _ _ _⟩
        simp [results, Try.results35, go_sem, s0, s1, s2, e0, e1]
      · have u1 : IntKind.i64.wrap (365 * c') = 365 * c' := IntWalk.i64_in _ (by omega)
        have u2 : IntKind.i64.wrap (365 * c' + l) = 365 * c' + l := IntWalk.i64_in _ (by omega)
        have X3 : S3 h1 l c' s w4.drew := ⟨R.out.at 0 _ rfl, R.out.at 1 _ rfl, R.out.at 2 _ rfl⟩
        have hi1 : h1 ≠ w.heap.size := by omega
        have hj1 : h1 ≠ w.heap.size + 1 := by omega
        have HKK : Hid (∀ W : World, Keep (w.heap.size + 2) w4.drew W → S3 h1 l c' s W) := fun W k => ⟨(R.out.drew.keepK k (by omega)).at 0 _ rfl, (R.out.drew.keepK k (by omega)).at 1 _ rfl, (R.out.drew.keepK k (by omega)).at 2 _ rfl⟩
        have HTK : Hid (∀ (M : Nat) (W : World), Src (w.heap.size + 2) (w.heap.size + 2) M W → Keep (w.heap.size + 2) w4.drew W → SD M w W) := fun M W hs k => (T.out.next (ext_drew (Below.refl _ _))).keep hs k
        have HS := Lib.hid T.out.src
        have HZ : Hid (w.heap.size + 2 < w4.heap.size) := T.out.src.lt
        clear T R
        go_wp2_with fail
        go_region_held3 (fun w' => w'.cell? ⟨h1, 0, none⟩ = some (.int .i64 l) ∧ w'.cell? ⟨h1, 1, none⟩ = some (.int .i64 c') ∧ w'.cell? ⟨h1, 2, none⟩ = some (.int .i64 s))
          (first | with_reducible exact X3 | with_reducible exact HKK.out _ K9 | with_reducible exact S3.set (S3.set (S3.set (HKK.out _ K9) hi1) hi1) hi1 | with_reducible exact S3.set (S3.set (HKK.out _ K9) hj1) hj1 | with_reducible exact S3.set (S3.set (S3.set (S3.set (S3.set (HKK.out _ K9) hi1) hi1) hi1) hj1) hj1 | with_reducible exact S3.set (S3.set (S3.set (S3.set (S3.set (HKK.out _ K9) hj1) hj1) hi1) hi1) hi1)
          (first | (go_at_call 118; (with_reducible refine (l02Make_some (365 * c' + l) c' _ (by omega) (by omega) (by omega) (by omega)).mono ?_); rintro e w9 ⟨a, b, rfl, hb9⟩; have S9 := (HS.out.next (ext_drew (Below.refl _ _))).next hb9; have K9 : Keep (w.heap.size + 2) w4.drew w9 := Keep.of hb9 HZ.out; have TD := Lib.hid (HTK.out _ _ S9 K9); have r0 := TD.out.r.at 0 _ rfl; have r1 := TD.out.r.at 1 _ rfl; have r2 := TD.out.r.at 2 _ rfl; have rf0 := TD.out.r.f 0; have rf1 := TD.out.r.f 1; have rf2 := TD.out.r.f 2; have f0 := TD.out.f.at 0 _ rfl; have f1 := TD.out.f.at 1 _ rfl; have ff0 := TD.out.f.f 0; have ff1 := TD.out.f.f 1))
        obtain ⟨s0, s1, s2⟩ := set_three r0 r1 r2
        obtain ⟨e0, e1⟩ := five_f (b := w.heap.size) (by omega) f0 f1
        have HE : Hid (∀ x y z u v, Below w.heap.size w (((((w9.setCell ⟨w.heap.size, 0, none⟩ x).setCell ⟨w.heap.size, 1, none⟩ y).setCell ⟨w.heap.size, 2, none⟩ z).setCell ⟨w.heap.size + 1, 0, none⟩ u).setCell ⟨w.heap.size + 1, 1, none⟩ v)) := fun x y z u v => ext_set (ext_set (ext_set (ext_set (ext_set TD.out.bel (Nat.le_refl _) _) (Nat.le_refl _) _) (Nat.le_refl _) _) (Nat.le_succ _) _) (Nat.le_succ _) _
        clear TD
        go_wp2
        refine bodyPost_ret ?_ rfl ⟨l, c', s, a, b, rfl, HE.out _ _ _ _ _⟩
        simp [results, Try.results35, go_sem, s0, s1, s2, e0, e1]
    · have hlt' : decide (l < c') = false := decide_eq_false hlt
      have X3 : S3 h1 l c' s w3.drew := ⟨R.out.at 0 _ rfl, R.out.at 1 _ rfl, R.out.at 2 _ rfl⟩
      have hi1 : h1 ≠ w.heap.size := by omega
      have hj1 : h1 ≠ w.heap.size + 1 := by omega
      have HKK : Hid (∀ W : World, Keep (w.heap.size + 2) w3.drew W → S3 h1 l c' s W) := fun W k => ⟨(R.out.drew.keepK k (by omega)).at 0 _ rfl, (R.out.drew.keepK k (by omega)).at 1 _ rfl, (R.out.drew.keepK k (by omega)).at 2 _ rfl⟩
      have HTK : Hid (∀ (M : Nat) (W : World), Src (w.heap.size + 2) (w.heap.size + 2) M W → Keep (w.heap.size + 2) w3.drew W → SD M w W) := fun M W hs k => (T.out.next (ext_drew (Below.refl _ _))).keep hs k
      have HS := Lib.hid T.out.src
      have HZ : Hid (w.heap.size + 2 < w3.heap.size) := T.out.src.lt
      clear T R
      go_wp2_with fail
      go_region_held3 (fun w' => w'.cell? ⟨h1, 0, none⟩ = some (.int .i64 l) ∧ w'.cell? ⟨h1, 1, none⟩ = some (.int .i64 c') ∧ w'.cell? ⟨h1, 2, none⟩ = some (.int .i64 s))
        (first | with_reducible exact X3 | with_reducible exact HKK.out _ K9 | with_reducible exact S3.set (S3.set (S3.set (HKK.out _ K9) hi1) hi1) hi1 | with_reducible exact S3.set (S3.set (HKK.out _ K9) hj1) hj1 | with_reducible exact S3.set (S3.set (S3.set (S3.set (S3.set (HKK.out _ K9) hi1) hi1) hi1) hj1) hj1 | with_reducible exact S3.set (S3.set (S3.set (S3.set (S3.set (HKK.out _ K9) hj1) hj1) hi1) hi1) hi1)
        (first | (go_at_call 105; (with_reducible refine (l24Length_any (w.heap.size + 2) (w.heap.size + 2) _ _ (HS.out.next (ext_drew (Below.refl _ _))) (by omega)).mono ?_); rintro e w9 ⟨a, b, rfl, S9, K9⟩; have TD := Lib.hid (HTK.out _ _ S9 K9); have r0 := TD.out.r.at 0 _ rfl; have r1 := TD.out.r.at 1 _ rfl; have r2 := TD.out.r.at 2 _ rfl; have rf0 := TD.out.r.f 0; have rf1 := TD.out.r.f 1; have rf2 := TD.out.r.f 2; have f0 := TD.out.f.at 0 _ rfl; have f1 := TD.out.f.at 1 _ rfl; have ff0 := TD.out.f.f 0; have ff1 := TD.out.f.f 1))
      obtain ⟨s0, s1, s2⟩ := set_three r0 r1 r2
      obtain ⟨e0, e1⟩ := five_f (b := w.heap.size) (by omega) f0 f1
      have HE : Hid (∀ x y z u v, Below w.heap.size w (((((w9.setCell ⟨w.heap.size, 0, none⟩ x).setCell ⟨w.heap.size, 1, none⟩ y).setCell ⟨w.heap.size, 2, none⟩ z).setCell ⟨w.heap.size + 1, 0, none⟩ u).setCell ⟨w.heap.size + 1, 1, none⟩ v)) := fun x y z u v => ext_set (ext_set (ext_set (ext_set (ext_set TD.out.bel (Nat.le_refl _) _) (Nat.le_refl _) _) (Nat.le_refl _) _) (Nat.le_succ _) _) (Nat.le_succ _) _
      clear TD
      go_wp2
      refine bodyPost_ret ?_ rfl ⟨l, c', s, a, b, rfl, HE.out _ _ _ _ _⟩
      simp [results, Try.results35, go_sem, s0, s1, s2, e0, e1]
end Go.Proofs.Ytdjnblkgeaphmaa
