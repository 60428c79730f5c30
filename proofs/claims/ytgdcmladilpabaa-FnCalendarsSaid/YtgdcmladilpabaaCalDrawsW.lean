/- What the calendars' statements draw from a code of bytes: the walks. No condition but those that each theorem names. -/
import Derived.Test.YtgdcmladilpabaaCalDrawW
import Derived.Deep.RegionHeld3
namespace Go.Proofs.Ytgdcmladilpabaa
open Go.RowKit Go.Sort

/-- A code of bytes. -/
def Bytes (w : World) (A : Option Addr) (n : Nat) : Prop := ∃ bs : List Int, Rd (Value.int .u8) w w.heap.size A bs ∧ bs.length = n ∧ n ≤ 1000000 ∧ ∀ x ∈ bs, 0 ≤ x ∧ x ≤ 255
theorem Bytes.next {w w' : World} {A : Option Addr} {n : Nat} (h : Bytes w A n) (hb : Below w.heap.size w w') : Bytes w' A n := by
  obtain ⟨bs, h1, h2⟩ := h
  exact ⟨bs, (h1.below hb).more hb.size, h2⟩
theorem l00From_bytes (A : Option Addr) (n c : Nat) (w : World) (h : Bytes w A n) :
    Calls Try.prog 92 #[.slice A n c] w fun e w' => e = .returned (.pointer (some ⟨w.heap.size, 0, none⟩)) ∧ Src w.heap.size w.heap.size 0 w' ∧ Below w.heap.size w w' := by
  obtain ⟨bs, h1, h2, h3, h4⟩ := h
  exact l00From_any A n c bs w h1 h2 h3 h4
set_option maxHeartbeats 1000000 in
theorem drawLeapYears_any (A : Option Addr) (n c : Nat) (w : World) (h : Bytes w A n) :
    Calls Try.prog 21 #[.slice A n c] w fun e w' => ∃ l c s : Int, e = .returned (ruleV l c s) ∧ Below w.heap.size w w' := by
  have H := Lib.hid h
  clear h
  go_enter Try.func21, Try.ntmps21
  go_wp2_with fail
  refine (l00From_bytes A n c _ (H.out.next (ext1 _ _))).mono ?_
  rintro e w1 ⟨rfl, S1, hb1⟩
  have R1 := Lib.hid (RB.keep (g := w.heap.size + 1) (RB.new w 0 0 0 25) ⟨hb1.mono (by simp), hb1.size, fun b _ hl => hb1.block b hl⟩ (by omega))
  have hz := hb1.size
  simp at hz
  go_wp2_with fail
  have S1 : Src (w.heap.size + 1) (w.heap.size + 1) 0 w1 := by simpa using S1
  refine (l24Draw_any (w.heap.size + 1) (w.heap.size + 1) 0 _ S1 (by omega)).mono ?_
  rintro e w2 ⟨l, c', s, rfl, S2, K2⟩
  have R2 := R1.out.keep K2 (by simp)
  obtain ⟨r0, r1, r2, rf, rl⟩ := R2
  have rf0 := rf 0
  have rf1 := rf 1
  have rf2 := rf 2
  obtain ⟨s0, s1, s2⟩ := set_three r0 r1 r2
  clear rf
  have hbb : Below w.heap.size w w2 := (ext_trans (ext1 _ _) hb1).trans (K2.1.mono (by simp))
  go_wp2
  refine bodyPost_ret ?_ rfl ⟨l, c', s, rfl, ext_set (ext_set (ext_set hbb (Nat.le_refl _) _) (Nat.le_refl _) _) (Nat.le_refl _) _⟩
  simp [results, Try.results21, go_sem, s0, s1, s2]
/-- The rule's cells in block h, held while others are written. -/
def RS (h : Nat) (l c s : Int) (V W : World) : Prop := W.cell? ⟨h, 0, none⟩ = some (.int .i64 l) ∧ W.cell? ⟨h, 1, none⟩ = some (.int .i64 c) ∧ W.cell? ⟨h, 2, none⟩ = some (.int .i64 s) ∧ h < W.heap.size ∧ V.heap.size ≤ W.heap.size
theorem RS.keep {g h : Nat} {l c s : Int} {V W W' : World} (t : RS h l c s V W) (k : Keep g W W') (hg : h ≠ g) : RS h l c s V W' :=
  ⟨(k.cell hg t.2.2.2.1).trans t.1, (k.cell hg t.2.2.2.1).trans t.2.1, (k.cell hg t.2.2.2.1).trans t.2.2.1, Nat.lt_of_lt_of_le t.2.2.2.1 k.2.1, Nat.le_trans t.2.2.2.2 k.2.1⟩
theorem RS.set {h i j : Nat} {u : Value} {l c s : Int} {V W : World} (t : RS h l c s V W) (hi : h ≠ i) : RS h l c s V (W.setCell ⟨i, j, none⟩ u) := by
  have o : ∀ m, (W.setCell ⟨i, j, none⟩ u).cell? ⟨h, m, none⟩ = W.cell? ⟨h, m, none⟩ := fun m => World.cell?_setCell_other _ _ _ _ (by intro e; injection e; omega)
  exact ⟨(o 0).trans t.1, (o 1).trans t.2.1, (o 2).trans t.2.2.1, by simpa using t.2.2.2.1, by simpa using t.2.2.2.2⟩
set_option maxHeartbeats 2000000 in
theorem l24Both_any (A : Option Addr) (n c : Nat) (w : World) (h : Bytes w A n) :
    Calls Try.prog 108 #[.slice A n c] w fun e w' => ∃ l c s y : Int, e = .returned (.tuple #[ruleV l c s, .int .i64 y]) ∧ Below w.heap.size w w' := by
  have H := Lib.hid h
  clear h
  go_enter Try.func108, Try.ntmps108
  go_wp2_with fail
  refine (l00From_bytes A n c _ (H.out.next (ext1 _ _))).mono ?_
  rintro e w1 ⟨rfl, S1, hb1⟩
  have R1 := Lib.hid (RB.keep (g := w.heap.size + 1) (RB.new w 0 0 0 25) ⟨hb1.mono (by simp), hb1.size, fun b _ hl => hb1.block b hl⟩ (by omega))
  have S1 : Src (w.heap.size + 1) (w.heap.size + 1) 0 w1 := by simpa using S1
  have hz1 : w.heap.size + 1 < w1.heap.size := by obtain ⟨A, n, c, bs, k, sd, h0, h1, h2, h3, h4, h5, h6, h7, h8, h9, h10, h11⟩ := S1; exact h10
  have hbb1 : Below w.heap.size w w1 := ext_trans (ext1 _ _) hb1
  clear hb1
  go_wp2_with fail
  refine (l24Draw_any (w.heap.size + 1) (w.heap.size + 1) 0 _ S1 (by omega)).mono ?_
  rintro e w2 ⟨l, c', s, rfl, S2, K2⟩
  have hz2 := K2.2.1
  have R2 := R1.out.keep K2 (by omega)
  have hbb2 : Below w.heap.size w w2 := hbb1.trans (K2.1.mono (by omega))
  have K3 : Keep (w.heap.size + 1) w2 (w2.alloc (.cells #[.int .i64 l, .int .i64 c', .int .i64 s] 25)) := Keep.of (ext1 _ _) (by omega)
  have R3 := Lib.hid (R2.keep K3 (by omega))
  have S3 := Lib.hid (S2.next (ext1 w2 (.cells #[.int .i64 l, .int .i64 c', .int .i64 s] 25)))
  have B3 := Lib.hid (RB.new w2 l c' s 25)
  have hbb3 := Lib.hid (ext_alloc hbb2 (.cells #[.int .i64 l, .int .i64 c', .int .i64 s] 25))
  clear R2 K2 K3 S2 S1
  go_wp2_with fail
  generalize w2.alloc (.cells #[.int .i64 l, .int .i64 c', .int .i64 s] 25) = W at *
  obtain ⟨x0, x1, x2, xf, xl⟩ := B3.out
  have X0 : RS w2.heap.size l c' s W W := ⟨x0, x1, x2, xl, Nat.le_refl _⟩
  clear xf
  go_region_held3 (fun w' => w'.cell? ⟨w2.heap.size, 0, none⟩ = some (.int .i64 l) ∧ w'.cell? ⟨w2.heap.size, 1, none⟩ = some (.int .i64 c') ∧ w'.cell? ⟨w2.heap.size, 2, none⟩ = some (.int .i64 s) ∧ w2.heap.size < w'.heap.size ∧ W.heap.size ≤ w'.heap.size)
    (first | exact X0 | exact RS.keep (g := w.heap.size + 1) (by assumption) (by assumption) (by omega) | exact RS.set (RS.set (RS.set (by assumption) (by omega)) (by omega)) (by omega))
    (first | (go_at_call 94; (with_reducible refine (l24DrawYear_any (w.heap.size + 1) (w.heap.size + 1) _ _ (S3.out.next (ext_drew (Below.refl _ _))) (by omega)).mono ?_); rintro e w4 ⟨y, rfl, S4, K4⟩; obtain ⟨r0, r1, r2, rf, rl⟩ := R3.out.keep ((Keep.refl _ _).drew.trans K4) (by omega); have rf0 := rf 0; have rf1 := rf 1; have rf2 := rf 2))
  obtain ⟨s0, s1, s2⟩ := set_three r0 r1 r2
  have hWz : w.heap.size + 1 < W.heap.size := by omega
  have hbb4 : Below w.heap.size w w4 := (ext_drew hbb3.out).trans (K4.1.mono (by omega))
  go_wp2
  refine bodyPost_ret ?_ rfl ⟨l, c', s, y, rfl, ext_set (ext_set (ext_set hbb4 (Nat.le_refl _) _) (Nat.le_refl _) _) (Nat.le_refl _) _⟩
  simp [results, Try.results108, go_sem, s0, s1, s2]
set_option maxHeartbeats 1000000 in
theorem drawIsLeap_any (A : Option Addr) (n c : Nat) (w : World) (h : Bytes w A n) :
    Calls Try.prog 24 #[.slice A n c] w fun e w' => ∃ l c s y : Int, e = .returned (.tuple #[ruleV l c s, .int .i64 y]) ∧ Below w.heap.size w w' := by
  have H := Lib.hid h
  clear h
  go_enter Try.func24, Try.ntmps24
  go_wp2_with fail
  refine (l24Both_any A n c _ (H.out.next (ext1 _ _))).mono ?_
  rintro e w1 ⟨l, c', s, y, rfl, hb1⟩
  obtain ⟨r0, r1, r2, rf, rl⟩ := RB.keep (g := w.heap.size + 1) (RB.new w 0 0 0 25) ⟨hb1.mono (by simp), hb1.size, fun b _ hl => hb1.block b hl⟩ (by omega)
  have rf0 := rf 0
  have rf1 := rf 1
  have rf2 := rf 2
  obtain ⟨s0, s1, s2⟩ := set_three r0 r1 r2
  clear rf
  go_wp2
  refine bodyPost_ret ?_ rfl ⟨l, c', s, y, rfl, ext_set (ext_set (ext_set (ext_trans (ext1 _ _) hb1) (Nat.le_refl _) _) (Nat.le_refl _) _) (Nat.le_refl _) _⟩
  simp [results, Try.results24, go_sem, s0, s1, s2]
end Go.Proofs.Ytgdcmladilpabaa
