/- What the calendars' statements draw from a code of bytes, two more: the walks. No condition but those that each theorem names. -/
import Derived.Test.YtgdcmladilpabaaCalDrawsW
namespace Go.Proofs.Ytgdcmladilpabaa
open Go.RowKit Go.Sort

theorem RS.alloc {h : Nat} {l c s : Int} {V W : World} (t : RS h l c s V W) (o : Obj) : RS h l c s V (W.alloc o) :=
  ⟨((ext1 W o).cell (p := ⟨h, 0, none⟩) t.2.2.2.1).trans t.1, ((ext1 W o).cell (p := ⟨h, 1, none⟩) t.2.2.2.1).trans t.2.1, ((ext1 W o).cell (p := ⟨h, 2, none⟩) t.2.2.2.1).trans t.2.2.1, Nat.lt_of_lt_of_le t.2.2.2.1 (ext1 W o).size, Nat.le_trans t.2.2.2.2 (ext1 W o).size⟩
set_option maxHeartbeats 4000000 in
theorem drawDayNumber_any (A : Option Addr) (n c : Nat) (w : World) (h : Bytes w A n) :
    Calls Try.prog 15 #[.slice A n c] w fun e w' => ∃ l c s y d : Int, e = .returned (.tuple #[ruleV l c s, .int .i64 y, .int .i64 d]) ∧ Below w.heap.size w w' := by
  have H := Lib.hid h
  clear h
  go_enter Try.func15, Try.ntmps15
  go_wp2_with fail
  refine (l00From_bytes A n c _ (H.out.next (ext1 _ _))).mono ?_
  rintro e w1 ⟨rfl, S1, hb1⟩
  have R1 := Lib.hid (RB.keep (g := w.heap.size + 1) (RB.new w 0 0 0 25) ⟨hb1.mono (by simp), hb1.size, fun b _ hl => hb1.block b hl⟩ (by omega))
  have S1 : Src (w.heap.size + 1) (w.heap.size + 1) 0 w1 := by simpa using S1
  have hz1 : w.heap.size + 1 < w1.heap.size := by obtain ⟨A, n, c, bs, k, sd, h0, h1, h2, h3, h4, h5, h6, h7, h8, h9, h10, h11⟩ := S1; exact h10
  have hbb1 : Below w.heap.size w w1 := ext_trans (ext1 _ _) hb1
  clear hb1
  go_wp2_with fail
  refine (l24Draw_any (w.heap.size + 1) (w.heap.size + 1) 0 _ S1 (by omega)).mono ?_
  rintro e w2 ⟨l, c', s, rfl, S2, K2⟩
  have hz2 := K2.2.1
  have R2 := R1.out.keep K2 (by omega)
  have hbb2 : Below w.heap.size w w2 := hbb1.trans (K2.1.mono (by omega))
  have K3 : Keep (w.heap.size + 1) w2 (w2.alloc (.cells #[.int .i64 l, .int .i64 c', .int .i64 s] 25)) := Keep.of (ext1 _ _) (by omega)
  have R3 := Lib.hid (R2.keep K3 (by omega))
  have S3 := Lib.hid (S2.next (ext1 w2 (.cells #[.int .i64 l, .int .i64 c', .int .i64 s] 25)))
  have B3 := Lib.hid (RB.new w2 l c' s 25)
  have hbb3 := Lib.hid (ext_alloc hbb2 (.cells #[.int .i64 l, .int .i64 c', .int .i64 s] 25))
  clear R2 K2 K3 S2 S1
  go_wp2_with fail
  generalize w2.alloc (.cells #[.int .i64 l, .int .i64 c', .int .i64 s] 25) = W at *
  refine (l24DrawYear_any (w.heap.size + 1) (w.heap.size + 1) _ _ S3.out (by omega)).mono ?_
  rintro e w4 ⟨y, rfl, S4, K4⟩
  go_wp2_with fail
  refine (srcOne_any (w.heap.size + 1) (w.heap.size + 1) _ 4 _ S4 (by omega) (by omega)).mono ?_
  rintro e w5 ⟨b, rfl, S5, K5⟩
  have K45 := K4.trans K5
  obtain ⟨x0, x1, x2, xf, xl⟩ := B3.out.keep K45 (by omega)
  have X5 : RS w2.heap.size l c' s w5 w5 := ⟨x0, x1, x2, xl, Nat.le_refl _⟩
  have R5 := Lib.hid (R3.out.keep K45 (by omega))
  have hz5 : w.heap.size + 1 < w5.heap.size := by omega
  have hz5' : w.heap.size + 1 < w5.drew.heap.size := hz5
  have hbb5 := Lib.hid (hbb3.out.trans (K45.1.mono (by omega)))
  have HS5 := Lib.hid S5
  clear xf S4 S5 K4 K5 K45
  cases b
  · go_wp2_with fail
    go_region_held3 (fun w' => w'.cell? ⟨w2.heap.size, 0, none⟩ = some (.int .i64 l) ∧ w'.cell? ⟨w2.heap.size, 1, none⟩ = some (.int .i64 c') ∧ w'.cell? ⟨w2.heap.size, 2, none⟩ = some (.int .i64 s) ∧ w2.heap.size < w'.heap.size ∧ w5.heap.size ≤ w'.heap.size)
      (first | exact X5 | exact RS.alloc (by assumption) _ | exact RS.keep (g := w.heap.size + 1) (by assumption) (by assumption) (by omega) | exact RS.set (RS.set (RS.set (by assumption) (by omega)) (by omega)) (by omega))
      (first | (go_at_call 97; (with_reducible refine (srcPick_any (w.heap.size + 1) (w.heap.size + 1) _ 365 _ (HS5.out.next (ext_drew (Below.refl _ _))) (by omega) (by omega)).mono ?_); rintro e w6 ⟨d, d1, d2, rfl, S6, K6⟩; obtain ⟨r0, r1, r2, rf, rl⟩ := R5.out.keep ((Keep.refl _ _).drew.trans K6) (by omega); have rf0 := rf 0; have rf1 := rf 1; have rf2 := rf 2))
    obtain ⟨s0, s1, s2⟩ := set_three r0 r1 r2
    have hbb6 : Below w.heap.size w w6 := (ext_drew hbb5.out).trans (K6.1.mono (by omega))
    go_wp2
    refine bodyPost_ret ?_ rfl ⟨l, c', s, y, d, rfl, ext_set (ext_set (ext_set hbb6 (Nat.le_refl _) _) (Nat.le_refl _) _) (Nat.le_refl _) _⟩
    simp [results, Try.results15, go_sem, s0, s1, s2]
  · go_wp2_with fail
    go_region_held3 (fun w' => w'.cell? ⟨w2.heap.size, 0, none⟩ = some (.int .i64 l) ∧ w'.cell? ⟨w2.heap.size, 1, none⟩ = some (.int .i64 c') ∧ w'.cell? ⟨w2.heap.size, 2, none⟩ = some (.int .i64 s) ∧ w2.heap.size < w'.heap.size ∧ w5.heap.size ≤ w'.heap.size)
      (first | exact X5 | exact RS.alloc (by assumption) _ | exact RS.keep (g := w.heap.size + 1) (by assumption) (by assumption) (by omega) | exact RS.set (RS.set (RS.set (by assumption) (by omega)) (by omega)) (by omega))
      (first | (go_at_call 96; (refine (srcAmong_any (w.heap.size + 1) (w.heap.size + 1) _ _ _ [-1, 0, 364, 365, 366] _ ((HS5.out.next (ext_drew (Below.refl _ _))).next (ext1 _ _)) (by omega) (rd_lit _ #[.int .i64 (-1), .int .i64 0, .int .i64 364, .int .i64 365, .int .i64 366] _ _ rfl) (fun b o e => by injection e with e; injection e; omega) (by simp) (by simp)).mono ?_); rintro e w6 ⟨d, hd, rfl, S6, K6⟩; obtain ⟨r0, r1, r2, rf, rl⟩ := R5.out.keep (((Keep.refl _ _).drew.alloc (by omega) _).trans K6) (by omega); have rf0 := rf 0; have rf1 := rf 1; have rf2 := rf 2))
    obtain ⟨s0, s1, s2⟩ := set_three r0 r1 r2
    have hbb6 : Below w.heap.size w w6 := (ext_alloc (ext_drew hbb5.out) _).trans (K6.1.mono (by omega))
    go_wp2
    refine bodyPost_ret ?_ rfl ⟨l, c', s, y, d, rfl, ext_set (ext_set (ext_set hbb6 (Nat.le_refl _) _) (Nat.le_refl _) _) (Nat.le_refl _) _⟩
    simp [results, Try.results15, go_sem, s0, s1, s2]
end Go.Proofs.Ytgdcmladilpabaa
