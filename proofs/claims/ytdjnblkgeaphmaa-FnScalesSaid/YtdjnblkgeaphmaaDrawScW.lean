/- What the statement on scales draws from a code of bytes: the walks. No condition but those that each theorem names. -/
import Derived.Test.YtdjnblkgeaphmaaDrawGW
namespace Go.Proofs.Ytdjnblkgeaphmaa
open Go.RowKit Go.Sort

/-- What a draw of a number returns. -/
def RetK (w : World) (e : Ending) (w' : World) : Prop := ∃ k : Int, e = .returned (.int .i64 k) ∧ Below w.heap.size w w'
theorem drawScaleNotes_any (A : Option Addr) (n c : Nat) (w : World) (h : Bytes w A n) :
    Calls Try.prog 46 #[.slice A n c] w (RetK w) := by
  have H := Lib.hid h
  clear h
  go_enter Try.func46, Try.ntmps46
  go_wp2_with fail
  refine (l00From_bytes A n c _ H.out).mono ?_
  rintro e w1 ⟨rfl, S1, hb1⟩
  go_wp2_with fail
  refine (srcPick_any w.heap.size w.heap.size 0 43 _ S1 (by omega) (by omega)).mono ?_
  rintro e w2 ⟨x, x1, x2, rfl, S2, K2⟩
  go_wp2
  go_ret
  exact ⟨_, rfl, hb1.trans K2.1⟩
theorem drawStepSizes_any (A : Option Addr) (n c : Nat) (w : World) (h : Bytes w A n) :
    Calls Try.prog 49 #[.slice A n c] w (RetK w) := by
  have H := Lib.hid h
  clear h
  go_enter Try.func49, Try.ntmps49
  go_wp2_with fail
  refine (l00From_bytes A n c _ H.out).mono ?_
  rintro e w1 ⟨rfl, S1, hb1⟩
  go_wp2_with fail
  refine (srcPick_any w.heap.size w.heap.size 0 43 _ S1 (by omega) (by omega)).mono ?_
  rintro e w2 ⟨x, x1, x2, rfl, S2, K2⟩
  go_wp2
  go_ret
  exact ⟨_, rfl, hb1.trans K2.1⟩
theorem drawCommaOf_any (A : Option Addr) (n c : Nat) (w : World) (h : Bytes w A n) :
    Calls Try.prog 52 #[.slice A n c] w (RetK w) := by
  have H := Lib.hid h
  clear h
  go_enter Try.func52, Try.ntmps52
  go_wp2_with fail
  refine (l00From_bytes A n c _ H.out).mono ?_
  rintro e w1 ⟨rfl, S1, hb1⟩
  go_wp2_with fail
  refine (srcPick_any w.heap.size w.heap.size 0 42 _ S1 (by omega) (by omega)).mono ?_
  rintro e w2 ⟨x, x1, x2, rfl, S2, K2⟩
  go_wp2
  go_ret
  exact ⟨_, rfl, hb1.trans K2.1⟩
theorem drawFifthOctaves_any (A : Option Addr) (n c : Nat) (w : World) (h : Bytes w A n) :
    Calls Try.prog 55 #[.slice A n c] w (RetK w) := by
  have H := Lib.hid h
  clear h
  go_enter Try.func55, Try.ntmps55
  go_wp2_with fail
  refine (l00From_bytes A n c _ H.out).mono ?_
  rintro e w1 ⟨rfl, S1, hb1⟩
  go_wp2_with fail
  refine (srcPick_any w.heap.size w.heap.size 0 42 _ S1 (by omega) (by omega)).mono ?_
  rintro e w2 ⟨x, x1, x2, rfl, S2, K2⟩
  go_wp2
  go_ret
  exact ⟨_, rfl, hb1.trans K2.1⟩
theorem drawFifthSteps_any (A : Option Addr) (n c : Nat) (w : World) (h : Bytes w A n) :
    Calls Try.prog 58 #[.slice A n c] w (RetK w) := by
  have H := Lib.hid h
  clear h
  go_enter Try.func58, Try.ntmps58
  go_wp2_with fail
  refine (l00From_bytes A n c _ H.out).mono ?_
  rintro e w1 ⟨rfl, S1, hb1⟩
  go_wp2_with fail
  refine (srcPick_any w.heap.size w.heap.size 0 22 _ S1 (by omega) (by omega)).mono ?_
  rintro e w2 ⟨x, x1, x2, rfl, S2, K2⟩
  go_wp2
  go_ret
  exact ⟨_, rfl, hb1.trans K2.1⟩
theorem drawOctaveTerms_any (A : Option Addr) (n c : Nat) (w : World) (h : Bytes w A n) :
    Calls Try.prog 64 #[.slice A n c] w (RetK w) := by
  have H := Lib.hid h
  clear h
  go_enter Try.func64, Try.ntmps64
  go_wp2_with fail
  refine (l00From_bytes A n c _ H.out).mono ?_
  rintro e w1 ⟨rfl, S1, hb1⟩
  go_wp2_with fail
  refine (srcPick_any w.heap.size w.heap.size 0 9 _ S1 (by omega) (by omega)).mono ?_
  rintro e w2 ⟨x, x1, x2, rfl, S2, K2⟩
  go_wp2
  go_ret
  exact ⟨_, rfl, hb1.trans K2.1⟩
/-- What a draw of a number and a fraction returns. -/
def RetKF (w : World) (e : Ending) (w' : World) : Prop := ∃ k a b : Int, e = .returned (.tuple #[.int .i64 k, fracV a b]) ∧ Below w.heap.size w w'
set_option maxHeartbeats 1000000 in
theorem drawRatioSteps_any (A : Option Addr) (n c : Nat) (w : World) (h : Bytes w A n) :
    Calls Try.prog 61 #[.slice A n c] w (RetKF w) := by
  have H := Lib.hid h
  clear h
  go_enter Try.func61, Try.ntmps61
  go_wp2_with fail
  refine (l00From_bytes A n c _ (H.out.next (ext1 _ _))).mono ?_
  rintro e w1 ⟨rfl, S1, hb1⟩
  have T := Lib.hid (SG.start S1 hb1)
  simp only [World.size_alloc]
  clear S1 hb1
  go_wp2_with fail
  refine (srcPick_any _ _ _ 14 _ T.out.1 (by omega) (by omega)).mono ?_
  rintro e w2 ⟨x, x1, x2, rfl, S2, K2⟩
  have T := Lib.hid (T.out.keep S2 K2)
  clear S2 K2
  go_wp2_with fail
  refine (srcOne_any _ _ _ 8 _ T.out.1 (by omega) (by omega)).mono ?_
  rintro e w3 ⟨bb, rfl, S3, K3⟩
  have T := Lib.hid (T.out.keep S3 K3)
  clear S3 K3
  cases bb
  · go_wp2_with fail
    refine (srcPick_any _ _ _ 11 _ T.out.1 (by omega) (by omega)).mono ?_
    rintro e w4 ⟨y, y1, y2, rfl, S4, K4⟩
    have T := Lib.hid (T.out.keep S4 K4)
    clear S4 K4
    go_wp2_with fail
    refine (srcPick_any _ _ _ (1 + y + 2) _ T.out.1 (by omega) (by omega)).mono ?_
    rintro e w5 ⟨z, z1, z2, rfl, S5, K5⟩
    have T := Lib.hid (T.out.keep S5 K5)
    clear S5 K5
    go_wp2_with fail
    refine (l02Make_some _ _ _ (by omega) (by omega) (by omega) (by omega)).mono ?_
    rintro e w6 ⟨u, v, rfl, hb6⟩
    have T := Lib.hid (T.out.next hb6)
    clear hb6
    obtain ⟨r0, r1, rf, rl⟩ := T.out.2.1
    have rf0 := rf 0
    have rf1 := rf 1
    clear rf
    obtain ⟨s0, s1⟩ := set_two r0 r1
    go_wp2
    refine bodyPost_ret ?_ rfl ⟨x, u, v, rfl, T.out.end_ _ _⟩
    simp [results, Try.results61, go_sem, s0, s1]
  · go_wp2_with fail
    refine (l02Bent_any _ _ _ _ T.out.1 (by omega)).mono ?_
    rintro e w4 ⟨a, b, rfl, S4, K4⟩
    have T := Lib.hid (T.out.keep S4 K4)
    clear S4 K4
    obtain ⟨r0, r1, rf, rl⟩ := T.out.2.1
    have rf0 := rf 0
    have rf1 := rf 1
    clear rf
    obtain ⟨s0, s1⟩ := set_two r0 r1
    go_wp2
    refine bodyPost_ret ?_ rfl ⟨x, a, b, rfl, T.out.end_ _ _⟩
    simp [results, Try.results61, go_sem, s0, s1]
end Go.Proofs.Ytdjnblkgeaphmaa
