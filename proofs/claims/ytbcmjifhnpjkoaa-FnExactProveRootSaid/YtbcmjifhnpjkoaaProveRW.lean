/- ProveRoot: the walks. No condition but those that each theorem names. -/
import Derived.Test.YtbcmjifhnpjkoaaProveW
import Derived.Test.YtbcmjifhnpjkoaaRootW
namespace Go.Proofs.Ytbcmjifhnpjkoaa
open Go.RowKit Go.Sort

/-- ProveRoot: the code and the numbers. -/
def prC (n : Int) : Int := if modB n = true then (if n < 0 then 6 else if sqB n = true then 6 else 0) else 2
def prK (n : Int) : Int := if prC n = 0 then 2 else 0
def prX (n : Int) : List Int := if prC n = 0 then [n, rtI n] else []

set_option maxHeartbeats 1000000 in
theorem iProveRoot_any (n : Int) (w : World) : Calls Try.prog 38 #[.int .i64 n] w (RetCertC w (prK n) (prX n) (prC n)) := by
  cases hm : modB n
  · have e1 : prC n = 2 := by simp [prC, hm]
    have e2 : prK n = 0 := by simp [prK, e1]
    have e3 : prX n = [] := by simp [prX, e1]
    rw [e1, e2, e3]
    clear e1 e2 e3
    go_enter Try.func38, Try.ntmps38
    go_wp2_with (go_at_call 106; refine (isModerate_any _ _).mono ?_; rintro e w' ⟨rfl, rfl⟩)
    exact bodyPost_ret (v := .tuple #[certV 0 none 0 0, .int .i64 2]) (by simp [results, Try.results38, go_sem]; done) rfl ⟨none, 0, rfl, fun h => absurd h (by simp), ext_alloc (Below.refl _ _) _⟩
  · obtain ⟨n1, n2⟩ := modB_true.1 hm
    by_cases h0 : n < 0
    · have e1 : prC n = 6 := by simp [prC, hm, h0]
      have e2 : prK n = 0 := by simp [prK, e1]
      have e3 : prX n = [] := by simp [prX, e1]
      rw [e1, e2, e3]
      clear e1 e2 e3
      go_enter Try.func38, Try.ntmps38
      go_wp2_with (go_at_call 106; refine (isModerate_any _ _).mono ?_; rintro e w' ⟨rfl, rfl⟩)
      exact bodyPost_ret (v := .tuple #[certV 0 none 0 0, .int .i64 6]) (by simp [results, Try.results38, go_sem]; done) rfl ⟨none, 0, rfl, fun h => absurd h (by simp), ext_alloc (Below.refl _ _) _⟩
    · have HQ := Lib.hid (isSquare_any n · (by omega) (by omega))
      have HR := Lib.hid (root_any n · (by omega) (by omega))
      cases hs : sqB n
      · have e1 : prC n = 0 := by simp [prC, hm, h0, hs]
        have e2 : prK n = 2 := by simp [prK, e1]
        have e3 : prX n = [n, rtI n] := by simp [prX, e1]
        rw [e1, e2, e3]
        clear e1 e2 e3
        rw [hs] at HQ
        clear hs
        generalize rtI n = r at *
        go_enter Try.func38, Try.ntmps38
        go_wp2_with (first | (go_at_call 106; refine (isModerate_any _ _).mono ?_; rintro e w' ⟨rfl, rfl⟩) | (go_at_call 107; refine (HQ.out _).mono ?_; rintro e w' ⟨rfl, rfl⟩) | (go_at_call 108; refine (HR.out _).mono ?_; rintro e w' ⟨rfl, rfl⟩))
        exact bodyPost_ret (v := .tuple #[certV 2 (some ⟨w.heap.size + 1, 0, none⟩) 2 2, .int .i64 0]) (by simp [results, Try.results38, go_sem]; done) rfl ⟨_, _, rfl, (Wr.lit' _ (xs := [n, r]) (by simp) rfl).more (by omega), ext_alloc (ext_alloc (Below.refl _ _) _) _⟩
      · have e1 : prC n = 6 := by simp [prC, hm, h0, hs]
        have e2 : prK n = 0 := by simp [prK, e1]
        have e3 : prX n = [] := by simp [prX, e1]
        rw [e1, e2, e3]
        clear e1 e2 e3
        rw [hs] at HQ
        clear hs
        go_enter Try.func38, Try.ntmps38
        go_wp2_with (first | (go_at_call 106; refine (isModerate_any _ _).mono ?_; rintro e w' ⟨rfl, rfl⟩) | (go_at_call 107; refine (HQ.out _).mono ?_; rintro e w' ⟨rfl, rfl⟩))
        exact bodyPost_ret (v := .tuple #[certV 0 none 0 0, .int .i64 6]) (by simp [results, Try.results38, go_sem]; done) rfl ⟨none, 0, rfl, fun h => absurd h (by simp), ext_alloc (Below.refl _ _) _⟩
set_option maxHeartbeats 1000000 in
theorem sProveRoot_any (n : Int) (w : World) : Calls Try.prog 37 #[.int .i64 n] w (RetCertC w (prK n) (prX n) (prC n)) := by
  cases hm : modB n
  · have e1 : prC n = 2 := by simp [prC, hm]
    have e2 : prK n = 0 := by simp [prK, e1]
    have e3 : prX n = [] := by simp [prX, e1]
    rw [e1, e2, e3]
    clear e1 e2 e3
    go_enter Try.func37, Try.ntmps37
    go_wp2_with (go_at_call 103; refine (l26Num_any _ _).mono ?_; rintro e w' ⟨rfl, rfl⟩)
    exact bodyPost_ret (v := .tuple #[certV 0 none 0 0, .int .i64 2]) (by simp [results, Try.results37, go_sem]; done) rfl ⟨none, 0, rfl, fun h => absurd h (by simp), ext_alloc (Below.refl _ _) _⟩
  · obtain ⟨n1, n2⟩ := modB_true.1 hm
    by_cases h0 : n < 0
    · have e1 : prC n = 6 := by simp [prC, hm, h0]
      have e2 : prK n = 0 := by simp [prK, e1]
      have e3 : prX n = [] := by simp [prX, e1]
      rw [e1, e2, e3]
      clear e1 e2 e3
      go_enter Try.func37, Try.ntmps37
      go_wp2_with (go_at_call 103; refine (l26Num_any _ _).mono ?_; rintro e w' ⟨rfl, rfl⟩)
      exact bodyPost_ret (v := .tuple #[certV 0 none 0 0, .int .i64 6]) (by simp [results, Try.results37, go_sem]; done) rfl ⟨none, 0, rfl, fun h => absurd h (by simp), ext_alloc (Below.refl _ _) _⟩
    · have HQ := Lib.hid (l07Square_any n · (by omega) (by omega))
      have HR := Lib.hid (l07Root_any n · (by omega) (by omega))
      cases hs : sqB n
      · have e1 : prC n = 0 := by simp [prC, hm, h0, hs]
        have e2 : prK n = 2 := by simp [prK, e1]
        have e3 : prX n = [n, rtI n] := by simp [prX, e1]
        rw [e1, e2, e3]
        clear e1 e2 e3
        rw [hs] at HQ
        clear hs
        generalize rtI n = r at *
        go_enter Try.func37, Try.ntmps37
        go_wp2_with (first | (go_at_call 103; refine (l26Num_any _ _).mono ?_; rintro e w' ⟨rfl, rfl⟩) | (go_at_call 104; refine (HQ.out _).mono ?_; rintro e w' ⟨rfl, rfl⟩) | (go_at_call 105; refine (HR.out _).mono ?_; rintro e w' ⟨rfl, rfl⟩))
        exact bodyPost_ret (v := .tuple #[certV 2 (some ⟨w.heap.size + 1, 0, none⟩) 2 2, .int .i64 0]) (by simp [results, Try.results37, go_sem]; done) rfl ⟨_, _, rfl, (Wr.lit' _ (xs := [n, r]) (by simp) rfl).more (by omega), ext_alloc (ext_alloc (Below.refl _ _) _) _⟩
      · have e1 : prC n = 6 := by simp [prC, hm, h0, hs]
        have e2 : prK n = 0 := by simp [prK, e1]
        have e3 : prX n = [] := by simp [prX, e1]
        rw [e1, e2, e3]
        clear e1 e2 e3
        rw [hs] at HQ
        clear hs
        go_enter Try.func37, Try.ntmps37
        go_wp2_with (first | (go_at_call 103; refine (l26Num_any _ _).mono ?_; rintro e w' ⟨rfl, rfl⟩) | (go_at_call 104; refine (HQ.out _).mono ?_; rintro e w' ⟨rfl, rfl⟩))
        exact bodyPost_ret (v := .tuple #[certV 0 none 0 0, .int .i64 6]) (by simp [results, Try.results37, go_sem]; done) rfl ⟨none, 0, rfl, fun h => absurd h (by simp), ext_alloc (Below.refl _ _) _⟩
end Go.Proofs.Ytbcmjifhnpjkoaa
