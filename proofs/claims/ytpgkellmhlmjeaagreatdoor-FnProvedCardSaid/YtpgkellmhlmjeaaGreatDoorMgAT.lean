/- Parts of the proof, merged: DrawLW A2dW A2LW DecNW Door NumW DoorV. No condition but those that each theorem names. -/
import Derived.Test.YtpgkellmhlmjeaaGreatDoorMgAS
import Derived.Test.YtpgkellmhlmjeaaGreatDoorMgAC
import Derived.Deep.RegionHeld3
import Derived.IntWalk
import Derived.Test.YtpgkellmhlmjeaaGreatDoorMgAG
import Derived.Test.YtpgkellmhlmjeaaGreatDoorMgAJ
import Derived.Test.YtpgkellmhlmjeaaGreatDoorMgAB
import Derived.Deep.AppendLies
import Derived.Test.YtpgkellmhlmjeaaGreatDoorMgAE
import Derived.Test.YtpgkellmhlmjeaaGreatDoorShelf
import Derived.Lib.AppendIntMem
import Derived.Test.YtpgkellmhlmjeaaGreatDoorCards
import Derived.Test.YtpgkellmhlmjeaaGreatDoorTie
import Derived.Lib.LaidTab
import Derived.Lib.LaidIn
import Derived.Stop.LaidErr
import Derived.LaidLaws
import Derived.SevenTiedAt
import Derived.ChangeVars
import Derived.Test.YtpgkellmhlmjeaaGreatDoorMgAD
import Derived.Lib.AtoiErrMem
import Derived.Deep.DeepCutAuto
import Derived.HandedShaped
import Derived.Shelf.Vars
namespace Go.Proofs.YtpgkellmhlmjeaaGreatDoor
open Go.RowKit Go.Sort
theorem lo_sm {n d : Int} (d1 : 1 ≤ d) (d2 : d ≤ 2000) (n1 : -2000 ≤ n) (n2 : n ≤ 2000) : fracOk (qN n d) (qD n d) = true ∧ -2000 ≤ qN n d ∧ qN n d ≤ 2000 ∧ qD n d ≤ 2000 := by
  have hg := gcd_pos' (n := n) (d := d) (by omega)
  have e1 : qN n d = n / (Int.gcd n d : Int) := by rw [qN, if_neg (by omega)]
  have e2 : qD n d = d / (Int.gcd n d : Int) := by rw [qD]; congr 1; omega
  obtain ⟨q1, q2⟩ := ediv_bd (M := 2000) hg n1 n2
  obtain ⟨q3, q4⟩ := ediv_bd (M := 2000) hg (show -2000 ≤ d by omega) d2
  rw [fracOk_true, e1, e2]
  refine ⟨⟨?_, by omega, by omega, by omega, ?_⟩, q1, q2, q4⟩
  · rw [Int.le_ediv_iff_mul_le hg]
    have : Int.gcd n d ≤ d.natAbs := Nat.le_of_dvd (by omega) (by exact Nat.gcd_dvd_right _ _)
    omega
  · exact Int.gcd_ediv_gcd_ediv_gcd_of_ne_zero_right (by omega)
/-- What a draw of a small fraction returns. -/
def RetFs (g B N : Nat) (w : World) (e : Ending) (w' : World) : Prop := ∃ a b : Int, e = .returned (fracV a b) ∧ (fracOk a b = true ∧ -2000 ≤ a ∧ a ≤ 2000 ∧ b ≤ 2000) ∧ Src g B N w' ∧ Keep g w w'
theorem S0.retS {g B N M : Nat} {w W : World} (t : S0 g B N w W) {a b : Int} (h : fracOk a b = true ∧ -2000 ≤ a ∧ a ≤ 2000 ∧ b ≤ 2000) (hM : N ≤ M) (x y : Value) (a' b' : Int) (ha : a' = a) (hb : b' = b) : RetFs g B M w (.returned (fracV a' b')) ((W.setCell ⟨w.heap.size, 0, none⟩ x).setCell ⟨w.heap.size, 1, none⟩ y) := by
  subst ha hb
  obtain ⟨t1, t2, t3, t4⟩ := t
  exact ⟨_, _, rfl, h, ((t1.setOther t4 _ _).setOther t4 _ _).more hM, (t2.setOther t4 (Nat.le_refl _) _ _).setOther t4 (Nat.le_refl _) _ _⟩
theorem l02Make_sm (n d : Int) (w : World) (n1 : -2000 ≤ n) (n2 : n ≤ 2000) (d1 : 1 ≤ d) (d2 : d ≤ 2000) :
    Calls Tryz.prog 140 #[.int .i64 n, .int .i64 d] w fun e w' => ∃ u v, e = .returned (fracV u v) ∧ (fracOk u v = true ∧ -2000 ≤ u ∧ u ≤ 2000 ∧ v ≤ 2000) ∧ Below w.heap.size w w' :=
  (l02Make_any n d w (by omega) (by omega) d1 (by omega)).mono fun _ _ h => ⟨_, _, h.1, lo_sm d1 d2 n1 n2, h.2⟩
set_option maxHeartbeats 1000000 in
theorem l02Draw150_any (g B N : Nat) (w : World) (h : Src g B N w) (hN : N ≤ 900000) :
    Calls Tryz.prog 98 #[.pointer (some ⟨g, 0, none⟩), .int .i64 150] w (RetFs g B (N + 8) w) := by
  have T := Lib.hid (S0.start h 41)
  clear h
  go_enter Tryz.func98, Tryz.ntmps98
  go_wp2_with fail
  refine (srcPick_any g B N 301 _ T.out.1 (by omega) (by omega)).mono ?_
  rintro e w1 ⟨x, x1, x2, rfl, S1, K1⟩
  have T := Lib.hid (T.out.keep S1 K1)
  go_wp2_with fail
  refine (srcOne_any g B _ 2 _ T.out.1 (by omega) (by omega)).mono ?_
  rintro e w2 ⟨b, rfl, S2, K2⟩
  have T := Lib.hid (T.out.keep S2 K2)
  clear S1 K1 S2 K2
  cases b
  · go_wp2_with fail
    refine (srcPick_any g B _ 150 _ T.out.1 (by omega) (by omega)).mono ?_
    rintro e w4 ⟨y, y1, y2, rfl, S4, K4⟩
    have T := Lib.hid (T.out.keep S4 K4)
    go_wp2_with fail
    refine (l02Make_sm _ _ _ (by omega) (by omega) (by omega) (by omega)).mono ?_
    rintro e w5 ⟨u, v, rfl, hok, hb5⟩
    have T := Lib.hid (T.out.next hb5)
    clear hb5 S4 K4
    obtain ⟨r0, r1, rf, rl⟩ := T.out.2.2.1
    have rf0 := rf 0
    have rf1 := rf 1
    clear rf
    obtain ⟨s0, s1⟩ := set_two r0 r1
    go_wp2
    refine bodyPost_ret ?_ rfl (S0.retS T.out hok (by omega) _ _ u v rfl rfl)
    simp [results, Tryz.results98, go_sem, s0, s1]
  · go_wp2_with fail
    refine (srcPick_any g B _ 151 _ T.out.1 (by omega) (by omega)).mono ?_
    rintro e w3 ⟨z, z1, z2, rfl, S3, K3⟩
    have T := Lib.hid ((T.out.keep S3 K3))
    clear S3 K3
    go_wp2_with fail
    refine (srcPick_any g B _ 150 _ T.out.1 (by omega) (by omega)).mono ?_
    rintro e w4 ⟨y, y1, y2, rfl, S4, K4⟩
    have T := Lib.hid (T.out.keep S4 K4)
    go_wp2_with fail
    refine (l02Make_sm _ _ _ (by omega) (by omega) (by omega) (by omega)).mono ?_
    rintro e w5 ⟨u, v, rfl, hok, hb5⟩
    have T := Lib.hid (T.out.next hb5)
    clear hb5 S4 K4
    obtain ⟨r0, r1, rf, rl⟩ := T.out.2.2.1
    have rf0 := rf 0
    have rf1 := rf 1
    clear rf
    obtain ⟨s0, s1⟩ := set_two r0 r1
    go_wp2
    refine bodyPost_ret ?_ rfl (S0.retS T.out hok (by omega) _ _ u v rfl rfl)
    simp [results, Tryz.results98, go_sem, s0, s1]
set_option maxHeartbeats 1000000 in
theorem l02Draw2000_any (g B N : Nat) (w : World) (h : Src g B N w) (hN : N ≤ 900000) :
    Calls Tryz.prog 98 #[.pointer (some ⟨g, 0, none⟩), .int .i64 2000] w (RetFs g B (N + 8) w) := by
  have T := Lib.hid (S0.start h 41)
  clear h
  go_enter Tryz.func98, Tryz.ntmps98
  go_wp2_with fail
  refine (srcPick_any g B N 4001 _ T.out.1 (by omega) (by omega)).mono ?_
  rintro e w1 ⟨x, x1, x2, rfl, S1, K1⟩
  have T := Lib.hid (T.out.keep S1 K1)
  go_wp2_with fail
  refine (srcOne_any g B _ 2 _ T.out.1 (by omega) (by omega)).mono ?_
  rintro e w2 ⟨b, rfl, S2, K2⟩
  have T := Lib.hid (T.out.keep S2 K2)
  clear S1 K1 S2 K2
  cases b
  · go_wp2_with fail
    refine (srcPick_any g B _ 2000 _ T.out.1 (by omega) (by omega)).mono ?_
    rintro e w4 ⟨y, y1, y2, rfl, S4, K4⟩
    have T := Lib.hid (T.out.keep S4 K4)
    go_wp2_with fail
    refine (l02Make_sm _ _ _ (by omega) (by omega) (by omega) (by omega)).mono ?_
    rintro e w5 ⟨u, v, rfl, hok, hb5⟩
    have T := Lib.hid (T.out.next hb5)
    clear hb5 S4 K4
    obtain ⟨r0, r1, rf, rl⟩ := T.out.2.2.1
    have rf0 := rf 0
    have rf1 := rf 1
    clear rf
    obtain ⟨s0, s1⟩ := set_two r0 r1
    go_wp2
    refine bodyPost_ret ?_ rfl (S0.retS T.out hok (by omega) _ _ u v rfl rfl)
    simp [results, Tryz.results98, go_sem, s0, s1]
  · go_wp2_with fail
    refine (srcPick_any g B _ 2001 _ T.out.1 (by omega) (by omega)).mono ?_
    rintro e w3 ⟨z, z1, z2, rfl, S3, K3⟩
    have T := Lib.hid ((T.out.keep S3 K3))
    clear S3 K3
    go_wp2_with fail
    refine (srcPick_any g B _ 2000 _ T.out.1 (by omega) (by omega)).mono ?_
    rintro e w4 ⟨y, y1, y2, rfl, S4, K4⟩
    have T := Lib.hid (T.out.keep S4 K4)
    go_wp2_with fail
    refine (l02Make_sm _ _ _ (by omega) (by omega) (by omega) (by omega)).mono ?_
    rintro e w5 ⟨u, v, rfl, hok, hb5⟩
    have T := Lib.hid (T.out.next hb5)
    clear hb5 S4 K4
    obtain ⟨r0, r1, rf, rl⟩ := T.out.2.2.1
    have rf0 := rf 0
    have rf1 := rf 1
    clear rf
    obtain ⟨s0, s1⟩ := set_two r0 r1
    go_wp2
    refine bodyPost_ret ?_ rfl (S0.retS T.out hok (by omega) _ _ u v rfl rfl)
    simp [results, Tryz.results98, go_sem, s0, s1]
set_option maxHeartbeats 1000000 in
theorem l18Draw_any (g B N : Nat) (w : World) (h : Src g B N w) (hN : N ≤ 800000) :
    Calls Tryz.prog 48 #[.pointer (some ⟨g, 0, none⟩)] w (RetFs g B (N + 12) w) := by
  have T := Lib.hid (S0.start h 41)
  clear h
  go_enter Tryz.func48, Tryz.ntmps48
  go_wp2_with fail
  refine (srcOne_any g B N 4 _ T.out.1 (by omega) (by omega)).mono ?_
  rintro e w1 ⟨b, rfl, S1, K1⟩
  have T := Lib.hid (T.out.keep S1 K1)
  clear S1 K1
  cases b
  · go_wp2_with fail
    refine (l02Draw150_any g B _ _ T.out.1 (by omega)).mono ?_
    rintro e w2 ⟨u, v, rfl, hok, S2, K2⟩
    have T := Lib.hid (T.out.keep S2 K2)
    clear S2 K2
    obtain ⟨r0, r1, rf, rl⟩ := T.out.2.2.1
    have rf0 := rf 0
    have rf1 := rf 1
    clear rf
    obtain ⟨s0, s1⟩ := set_two r0 r1
    go_wp2
    refine bodyPost_ret ?_ rfl (S0.retS T.out hok (by omega) _ _ u v rfl rfl)
    simp [results, Tryz.results48, go_sem, s0, s1]
  · go_wp2_with fail
    refine (l02Draw2000_any g B _ _ T.out.1 (by omega)).mono ?_
    rintro e w2 ⟨u, v, rfl, hok, S2, K2⟩
    have T := Lib.hid (T.out.keep S2 K2)
    clear S2 K2
    obtain ⟨r0, r1, rf, rl⟩ := T.out.2.2.1
    have rf0 := rf 0
    have rf1 := rf 1
    clear rf
    obtain ⟨s0, s1⟩ := set_two r0 r1
    go_wp2
    refine bodyPost_ret ?_ rfl (S0.retS T.out hok (by omega) _ _ u v rfl rfl)
    simp [results, Tryz.results48, go_sem, s0, s1]
end Go.Proofs.YtpgkellmhlmjeaaGreatDoor
namespace Go.Proofs.YtpgkellmhlmjeaaGreatDoor
open Go.RowKit Go.Sort
theorem ns_next {d : Int} (h1 : 2 ≤ d) (h2 : sqB d = true) : sqB (d + 1) = false := by
  have e : rtI d * rtI d = d := by simpa [sqB] using h2
  obtain ⟨r0, r1, r2⟩ := rtI_is (n := d) (by omega)
  obtain ⟨t0, t1, t2⟩ := rtI_is (n := d + 1) (by omega)
  unfold sqB
  rw [decide_eq_false_iff_not]
  intro e2
  rcases Int.lt_or_le (rtI d) (rtI (d + 1)) with g | g
  · have := sq_mono (a := rtI d + 1) (b := rtI (d + 1)) (by omega) (by omega)
    have e3 : (rtI d + 1) * (rtI d + 1) = rtI d * rtI d + 2 * rtI d + 1 := by grind
    have : rtI d ≠ 0 := by
      intro e4
      rw [e4] at e
      omega
    omega
  · have := sq_mono (a := rtI (d + 1)) (b := rtI d) t0 g
    omega
/-- What a draw of a number returns that is no square. -/
def RetNs (g B N : Nat) (w : World) (e : Ending) (w' : World) : Prop := ∃ x : Int, 2 ≤ x ∧ x ≤ 702 ∧ sqB x = false ∧ e = .returned (.int .i64 x) ∧ Src g B N w' ∧ Keep g w w'
set_option maxHeartbeats 1000000 in
theorem l07DrawD_ns (g B N : Nat) (w : World) (h : Src g B N w) (hN : N ≤ 800000) :
    Calls Tryz.prog 46 #[.pointer (some ⟨g, 0, none⟩)] w (RetNs g B (N + 6) w) := by
  have HS := Lib.hid h
  clear h
  go_enter Tryz.func46, Tryz.ntmps46
  go_wp2_with fail
  refine (srcPick_any g B N 98 _ HS.out (by omega) (by omega)).mono ?_
  rintro e w1 ⟨x, x1, x2, rfl, S1, K1⟩
  have S := Lib.hid S1
  have K := Lib.hid K1
  clear S1 K1 HS
  go_wp2_with fail
  refine (srcOne_any g B _ 3 _ S.out (by omega) (by omega)).mono ?_
  rintro e w2 ⟨b, rfl, S1, K1⟩
  have S := Lib.hid S1
  have K := Lib.hid (K.out.trans K1)
  clear S1 K1
  cases b
  · obtain ⟨q, hq⟩ : ∃ q, sqB (2 + x) = q := ⟨_, rfl⟩
    have HQ := Lib.hid hq
    go_wp2_with fail
    refine (l07Square_any _ _ (by omega) (by omega)).mono ?_
    rw [hq]
    rintro e w' ⟨rfl, rfl⟩
    clear hq
    cases q
    · go_wp2
      go_ret
      exact ⟨_, by omega, by omega, HQ.out, rfl, S.out.more (by omega), K.out⟩
    · go_wp2
      go_ret
      exact ⟨_, by omega, by omega, ns_next (by omega) HQ.out, rfl, S.out.more (by omega), K.out⟩
  · go_wp2_with fail
    refine (srcPick_any g B _ 700 _ S.out (by omega) (by omega)).mono ?_
    rintro e w3 ⟨z, z1, z2, rfl, S1, K1⟩
    have S := Lib.hid S1
    have K := Lib.hid (K.out.trans K1)
    clear S1 K1
    obtain ⟨q, hq⟩ : ∃ q, sqB (2 + z) = q := ⟨_, rfl⟩
    have HQ := Lib.hid hq
    go_wp2_with fail
    refine (l07Square_any _ _ (by omega) (by omega)).mono ?_
    rw [hq]
    rintro e w' ⟨rfl, rfl⟩
    clear hq
    cases q
    · go_wp2
      go_ret
      exact ⟨_, by omega, by omega, HQ.out, rfl, S.out.more (by omega), K.out⟩
    · go_wp2
      go_ret
      exact ⟨_, by omega, by omega, ns_next (by omega) HQ.out, rfl, S.out.more (by omega), K.out⟩
/-- What a draw of a surd returns that is valid. -/
def RetSv (g B N : Nat) (w : World) (e : Ending) (w' : World) : Prop := ∃ p d q : Int, surdB p d q = true ∧ e = .returned (.agg #[.int .i64 p, .int .i64 d, .int .i64 q]) ∧ Src g B N w' ∧ Keep g w w'
theorem sv_of {p d q : Int} (h1 : 2 ≤ d) (h2 : d ≤ 702) (h3 : sqB d = false) (p1 : -20 ≤ p) (p2 : p ≤ 20) (q1 : 1 ≤ q) (q2 : q ≤ 40) (hm : ((d - p * p).natAbs : Int) % q = 0) : surdB p d q = true ∧ surdB p d (-q) = true := by
  have hd : q ∣ (d - p * p) := by
    have h := Int.dvd_of_emod_eq_zero hm
    exact Int.dvd_natAbs.1 h
  exact ⟨surdB_true.2 ⟨⟨by omega, by omega⟩, h3, ⟨by omega, by omega⟩, ⟨by omega, by omega⟩, by omega, Int.tmod_eq_zero_of_dvd hd⟩, surdB_true.2 ⟨⟨by omega, by omega⟩, h3, ⟨by omega, by omega⟩, ⟨by omega, by omega⟩, by omega, Int.tmod_eq_zero_of_dvd (Int.neg_dvd.2 hd)⟩⟩
set_option maxRecDepth 100000 in
set_option maxHeartbeats 2000000 in
theorem l07Draw_sv (g B N : Nat) (w : World) (h : Src g B N w) (hN : N ≤ 700000) :
    Calls Tryz.prog 47 #[.pointer (some ⟨g, 0, none⟩)] w (RetSv g B (N + 40) w) := by
  have HG := Lib.hid h.lt
  have S := Lib.hid (h.next (ext1 w (.cells #[.int .i64 0, .int .i64 0, .int .i64 0] 46)))
  have K := Lib.hid (Keep.of (ext1 w (.cells #[.int .i64 0, .int .i64 0, .int .i64 0] 46)) h.lt)
  have R := Lib.hid (BoxV.new w #[.int .i64 0, .int .i64 0, .int .i64 0] 46)
  clear h
  go_enter Tryz.func47, Tryz.ntmps47
  go_wp2_with fail
  generalize w.alloc (.cells #[.int .i64 0, .int .i64 0, .int .i64 0] 46) = W0 at *
  refine (l07DrawD_ns g B N _ S.out (by omega)).mono ?_
  rintro e w1 ⟨d, d1, d2, hns, rfl, S1, K1⟩
  have S := Lib.hid S1
  have R := Lib.hid (BoxV.keepK R.out K1 (by have := HG.out; omega))
  have K := Lib.hid (K.out.trans K1)
  clear S1 K1
  have HNS := Lib.hid hns
  clear hns
  go_wp2_with fail
  refine (srcPick_any g B _ 41 _ S.out (by omega) (by omega)).mono ?_
  rintro e w2 ⟨x, x1, x2, rfl, S1, K1⟩
  have S := Lib.hid S1
  have R := Lib.hid (BoxV.keepK R.out K1 (by have := HG.out; omega))
  have K := Lib.hid (K.out.trans K1)
  clear S1 K1
  obtain ⟨p, hp0⟩ : ∃ p, x - 20 = p := ⟨_, rfl⟩
  obtain ⟨m, hm⟩ : ∃ m, p * p = m := ⟨_, rfl⟩
  have hp : -400 ≤ m ∧ m ≤ 400 := by
    have := mul_bd (x := p) (y := p) (M := 20) (N := 20) (by omega) (by omega) (by omega) (by omega) (by omega) (by omega)
    rw [← hm]; omega
  obtain ⟨hp1, hp2⟩ := hp
  have p1 : -20 ≤ p := by omega
  have p2 : p ≤ 20 := by omega
  have HSV : Hid (∀ q : Int, 1 ≤ q → q ≤ 40 → ((d - m).natAbs : Int) % q = 0 → surdB p d q = true ∧ surdB p d (-q) = true) := fun q q1 q2 hq => sv_of d1 d2 HNS.out p1 p2 q1 q2 (by rw [hm]; exact hq)
  go_wp2_with fail
  refine (l02Size_any (d - m) _ (by omega) (by omega)).mono ?_
  rintro e w' ⟨rfl, rfl⟩
  obtain ⟨v, hv⟩ : ∃ v : Int, ((d - m).natAbs : Int) = v := ⟨_, rfl⟩
  have v1 : 0 ≤ v := by omega
  have v2 : v ≤ 2000 := by omega
  rw [hv] at HSV
  rw [hv]
  clear hv hm hp0 x1 x2
  go_wp2_with fail
  refine (srcPick_any g B _ 8 _ S.out (by omega) (by omega)).mono ?_
  rintro e w3 ⟨k, k1, k2, rfl, S1, K1⟩
  have S := Lib.hid S1
  have R := Lib.hid (BoxV.keepK R.out K1 (by have := HG.out; omega))
  have K := Lib.hid (K.out.trans K1)
  clear S1 K1
  obtain ⟨k, rfl⟩ : ∃ j : Nat, k = (j : Int) := ⟨k.toNat, by omega⟩
  have hk7 : k ≤ 7 := by omega
  clear k1 k2
  go_wp2_with fail
  go_loopw [7, 6] (fun t u wr => ∃ (k : Nat) (q : Int), t = .int .i64 k ∧ k ≤ 7 ∧ u = .int .i64 q ∧ 1 ≤ q ∧ q ≤ 40 ∧ Hid (v % q = 0) ∧ Hid (Src g B (N + 10 + 2 * (7 - k)) wr) ∧ Hid (Keep g w wr) ∧ Hid (BoxV w.heap.size [.int .i64 0, .int .i64 0, .int .i64 0] wr)) (fun t _ _ => (intOf t).toNat)
  case atStart => exact ⟨k, 1, rfl, hk7, rfl, by omega, by omega, Int.emod_one v, S.out.more (by omega), K, R⟩
  case round =>
    obtain ⟨k, q, rfl, hk, rfl, q1, q2, HM, S, K, R⟩ := hrel
    by_cases h0 : 0 < k
    · go_wp2_with fail
      refine (srcPick_any g B _ 40 _ S.out (by omega) (by omega)).mono ?_
      rintro e w4 ⟨y, y1, y2, rfl, S1, K1⟩
      have S := Lib.hid S1
      have R := Lib.hid (BoxV.keepK R.out K1 (by have := HG.out; omega))
      have K := Lib.hid (K.out.trans K1)
      clear S1 K1
      have y0 : (1 + y == 0) = false := by simp; omega
      by_cases hz : v % (1 + y) = 0
      · have HZ := Lib.hid hz
        have hz' : (v % (1 + y) == 0) = true := by simpa using hz
        clear hz
        go_wp2
        go_roundw
        case rel => exact ⟨k - 1, _, val_int (by omega), by omega, rfl, by omega, by omega, HZ.out, S.out.more (by omega), K, R⟩
        case measure => simp [intOf]; omega
      · have hz' : (v % (1 + y) == 0) = false := by simpa using hz
        clear hz
        go_wp2
        go_roundw
        case rel => exact ⟨k - 1, _, val_int (by omega), by omega, rfl, by omega, by omega, HM.out, S.out.more (by omega), K, R⟩
        case measure => simp [intOf]; omega
    · go_wp2_with fail
      refine (srcOne_any g B _ 4 _ S.out (by omega) (by omega)).mono ?_
      rintro e w4 ⟨b, rfl, S1, K1⟩
      have S := Lib.hid S1
      have R := Lib.hid (BoxV.keepK R.out K1 (by have := HG.out; omega))
      have K := Lib.hid (K.out.trans K1)
      clear S1 K1
      have r0 := R.out.at 0 _ rfl
      have r1 := R.out.at 1 _ rfl
      have r2 := R.out.at 2 _ rfl
      have f0 := R.out.f 0
      have f1 := R.out.f 1
      have f2 := R.out.f 2
      obtain ⟨s0, s1, s2⟩ := set_three r0 r1 r2
      have HE : Hid (∀ a b c, Src g B (N + 40) (((w4.setCell ⟨w.heap.size, 0, none⟩ a).setCell ⟨w.heap.size, 1, none⟩ b).setCell ⟨w.heap.size, 2, none⟩ c) ∧ Keep g w (((w4.setCell ⟨w.heap.size, 0, none⟩ a).setCell ⟨w.heap.size, 1, none⟩ b).setCell ⟨w.heap.size, 2, none⟩ c)) := fun a b c =>
        ⟨(((S.out.more (by omega)).setOther HG.out _ _).setOther HG.out _ _).setOther HG.out _ _, ((K.out.setOther HG.out (Nat.le_refl _) _ _).setOther HG.out (Nat.le_refl _) _ _).setOther HG.out (Nat.le_refl _) _ _⟩
      have HV := Lib.hid (HSV.out q q1 q2 HM.out)
      cases b
      · go_wp2
        refine bodyPost_ret ?_ rfl ⟨p, d, q, HV.out.1, rfl, (HE.out _ _ _).1, (HE.out _ _ _).2⟩
        simp [results, Tryz.results47, go_sem, s0, s1, s2]
      · go_wp2
        refine bodyPost_ret ?_ rfl ⟨p, d, -q, HV.out.2, rfl, (HE.out _ _ _).1, (HE.out _ _ _).2⟩
        simp [results, Tryz.results47, go_sem, s0, s1, s2]
set_option maxHeartbeats 1000000 in
theorem a2D_any (A : Option Addr) (n c : Nat) (w : World) (h : Bytes w A n) :
    Calls Tryz.prog 16 #[.slice A n c] w fun e w' => ∃ d : Int, e = .returned (.int .i64 d) ∧ 2 ≤ d ∧ d ≤ 702 ∧ sqB d = false ∧ Below w.heap.size w w' := by
  have By := Lib.hid h
  clear h
  go_enter Tryz.func16, Tryz.ntmps16
  go_wp2_with fail
  refine (l00From_bytes A n c _ By.out).mono ?_
  rintro e w1 ⟨rfl, S1, hb1⟩
  have HS := Lib.hid S1
  have HE := Lib.hid hb1
  clear S1 hb1
  go_wp2_with fail
  refine (l07DrawD_ns w.heap.size w.heap.size 0 _ HS.out (by omega)).mono ?_
  rintro e w2 ⟨d, d1, d2, d3, rfl, S2, K2⟩
  have HB : Hid (Below w.heap.size w w2) := HE.out.trans K2.1
  have HD := Lib.hid d3
  clear S2 K2 d3
  go_wp2
  go_ret
  exact ⟨d, rfl, d1, d2, HD.out, HB.out⟩
set_option maxRecDepth 100000 in
set_option maxHeartbeats 1000000 in
theorem a2Surd_any (A : Option Addr) (n c : Nat) (w : World) (h : Bytes w A n) :
    Calls Tryz.prog 17 #[.slice A n c] w fun e w' => ∃ p d q : Int, e = .returned (surdV p d q) ∧ surdB p d q = true ∧ Below w.heap.size w w' := by
  have By := Lib.hid (h.next (ext1 w (.cells #[.int .i64 0, .int .i64 0, .int .i64 0] 46)))
  clear h
  go_enter Tryz.func17, Tryz.ntmps17
  go_wp2_with fail
  refine (l00From_bytes A n c _ By.out).mono ?_
  rintro e w1 ⟨rfl, S1, hb1⟩
  have B0 := Lib.hid ((BoxV.new w #[.int .i64 0, .int .i64 0, .int .i64 0] 46).next hb1)
  have HE := Lib.hid (ext_trans (ext1 w (.cells #[.int .i64 0, .int .i64 0, .int .i64 0] 46)) hb1)
  have HS1 : Hid (Src (w.heap.size + 1) (w.heap.size + 1) 0 w1) := by
    have h := S1
    simp only [World.size_alloc] at h
    exact h
  clear S1 hb1 By
  go_wp2_with fail
  refine (l07Draw_sv (w.heap.size + 1) (w.heap.size + 1) 0 _ HS1.out (by omega)).mono ?_
  rintro e w2 ⟨p, d, q, hv, rfl, S2, K2⟩
  have B1 := Lib.hid (BoxV.keepK B0.out K2 (by simp))
  have HE2 : Hid (Below w.heap.size w w2) := HE.out.trans (K2.1.mono (by simp))
  have HV := Lib.hid hv
  have r0 := B1.out.at 0 _ rfl
  have r1 := B1.out.at 1 _ rfl
  have r2 := B1.out.at 2 _ rfl
  have rf0 := B1.out.f 0
  have rf1 := B1.out.f 1
  have rf2 := B1.out.f 2
  obtain ⟨s0, s1, s2⟩ := set_three r0 r1 r2
  clear hv S2 K2 B0 HS1 HE
  go_wp2
  exact bodyPost_ret (v := surdV p d q) (by simp [surdV, results, Tryz.results17, go_sem, s0, s1, s2]; done) rfl ⟨p, d, q, rfl, HV.out, ext_set (ext_set (ext_set HE2.out (Nat.le_refl _) _) (Nat.le_refl _) _) (Nat.le_refl _) _⟩
set_option maxRecDepth 100000 in
set_option maxHeartbeats 1000000 in
theorem a2Small_any (A : Option Addr) (n c : Nat) (w : World) (h : Bytes w A n) :
    Calls Tryz.prog 18 #[.slice A n c] w fun e w' => ∃ a b : Int, e = .returned (fracV a b) ∧ (fracOk a b = true ∧ -2000 ≤ a ∧ a ≤ 2000 ∧ b ≤ 2000) ∧ Below w.heap.size w w' := by
  have By := Lib.hid (h.next (ext1 w (.cells #[.int .i64 0, .int .i64 0] 41)))
  clear h
  go_enter Tryz.func18, Tryz.ntmps18
  go_wp2_with fail
  refine (l00From_bytes A n c _ By.out).mono ?_
  rintro e w1 ⟨rfl, S1, hb1⟩
  have B0 := Lib.hid ((BoxV.new w #[.int .i64 0, .int .i64 0] 41).next hb1)
  have HE := Lib.hid (ext_trans (ext1 w (.cells #[.int .i64 0, .int .i64 0] 41)) hb1)
  have HS1 : Hid (Src (w.heap.size + 1) (w.heap.size + 1) 0 w1) := by
    have h := S1
    simp only [World.size_alloc] at h
    exact h
  clear S1 hb1 By
  go_wp2_with fail
  refine (l18Draw_any (w.heap.size + 1) (w.heap.size + 1) 0 _ HS1.out (by omega)).mono ?_
  rintro e w2 ⟨a, b, rfl, hv, S2, K2⟩
  have B1 := Lib.hid (BoxV.keepK B0.out K2 (by simp))
  have HE2 : Hid (Below w.heap.size w w2) := HE.out.trans (K2.1.mono (by simp))
  have HV := Lib.hid hv
  have r0 := B1.out.at 0 _ rfl
  have r1 := B1.out.at 1 _ rfl
  have rf0 := B1.out.f 0
  have rf1 := B1.out.f 1
  obtain ⟨s0, s1⟩ := set_two r0 r1
  clear hv S2 K2 B0 HS1 HE
  go_wp2
  exact bodyPost_ret (v := fracV a b) (by simp [fracV, results, Tryz.results18, go_sem, s0, s1]; done) rfl ⟨a, b, rfl, HV.out, ext_set (ext_set HE2.out (Nat.le_refl _) _) (Nat.le_refl _) _⟩
end Go.Proofs.YtpgkellmhlmjeaaGreatDoor
namespace Go.Proofs.YtpgkellmhlmjeaaGreatDoor
open Go.RowKit Go.Sort
theorem a2Long_any (A B : Option Addr) (n m c d : Nat) (w : World) :
    Calls Tryz.prog 5 #[.slice A n c, .slice B m d] w fun e w' => e = .returned (.bool (decide (3000 < n ∨ 3000 < m))) ∧ w = w' := by
  by_cases h : 3000 < n
  · have h1 : (3000 : Int) < (n : Int) := by omega
    have hd : decide (3000 < n ∨ 3000 < m) = true := by simp [h]
    rw [hd]
    go_enter Tryz.func5, Tryz.ntmps5
    go_wp2
    go_ret
    exact ⟨rfl, rfl⟩
  · have h1 : ¬ (3000 : Int) < (n : Int) := by omega
    by_cases h2 : 3000 < m
    · have h3 : (3000 : Int) < (m : Int) := by omega
      have hd : decide (3000 < n ∨ 3000 < m) = true := by simp [h2]
      rw [hd]
      go_enter Tryz.func5, Tryz.ntmps5
      go_wp2
      go_ret
      exact ⟨rfl, rfl⟩
    · have h3 : ¬ (3000 : Int) < (m : Int) := by omega
      have hd : decide (3000 < n ∨ 3000 < m) = false := by simp [h, h2]
      rw [hd]
      go_enter Tryz.func5, Tryz.ntmps5
      go_wp2
      go_ret
      exact ⟨rfl, rfl⟩
/-- A number that depends on bytes. -/
theorem a2At_any (A : Option Addr) (l c : Nat) (j n : Int) (w : World) (h : Bytes w A l) (hj : 0 ≤ j) (hn : 1 ≤ n) (hn2 : n ≤ 1000000) :
    Calls Tryz.prog 15 #[.slice A l c, .int .i64 j, .int .i64 n] w fun e w' => ∃ x : Int, e = .returned (.int .i64 x) ∧ 0 ≤ x ∧ x < n ∧ w = w' := by
  obtain ⟨bs, hr, hl, hm, hb⟩ := h
  by_cases h1 : (l : Int) ≤ j
  · go_enter Tryz.func15, Tryz.ntmps15
    go_wp2
    go_ret
    exact ⟨0, rfl, by omega, by omega, rfl⟩
  · have h2 : j < (l : Int) := by omega
    obtain ⟨k, rfl⟩ : ∃ k : Nat, j = (k : Int) := ⟨j.toNat, by omega⟩
    obtain ⟨b, off, rfl, hbl, hc⟩ := hr (by omega)
    obtain ⟨x, hx⟩ : ∃ x, bs[k]? = some x := ⟨_, List.getElem?_eq_getElem (by omega)⟩
    obtain ⟨x1, x2⟩ := hb x (List.mem_of_getElem? hx)
    have c1 := hc k x hx
    have e1 : (n == 0) = false := by simp; omega
    have q1 := Int.emod_nonneg x (show n ≠ 0 by omega)
    have q2 := Int.emod_lt_of_pos x (show 0 < n by omega)
    have e2 : ¬ n < 1 := by omega
    clear hc hx hr hb
    go_enter Tryz.func15, Tryz.ntmps15
    go_wp2
    go_ret
    exact ⟨_, rfl, q1, q2, rfl⟩
end Go.Proofs.YtpgkellmhlmjeaaGreatDoor
namespace Go.Proofs.YtpgkellmhlmjeaaGreatDoor
open Go.RowKit Go.Sort
/-- The table of the powers of ten lies in memory. -/
def Tab10 (w : World) : Prop := Lib.TabIs Tryz.prog w "internal/strconv.uint64pow10" .u64 Lib.pow10Tab
theorem Tab10.next {w W : World} (h : Tab10 w) (hb : Below w.heap.size w W) : Tab10 W := Lib.tabBelow_of_tabIs h W hb
theorem iDecimal_any (n : Int) (w : World) (n1 : -9223372036854775808 ≤ n) (n2 : n ≤ 9223372036854775807) (h : Tab10 w) :
    Calls Tryz.prog 37 #[.int .i64 n] w fun e w' => e = .returned (.string (decB n)) ∧ Below w.heap.size w w' := by
  have HF : Hid (Calls Tryz.prog 85 #[.int .i64 n, .int .i64 10] w fun e w' => e = .returned (.string (decB n)) ∧ Below w.heap.size w w') := by
    refine (Tryz.strconv_FormatInt_10 n n1 n2 w h).mono ?_
    rintro e w' ⟨rfl, k, os, rfl⟩
    exact ⟨rfl, Lib.below_grow _ w (Nat.le_refl _) k os⟩
  generalize decB n = d at *
  clear h n1 n2
  go_enter Tryz.func37, Tryz.ntmps37
  go_wp2_with fail
  refine HF.out.mono ?_
  rintro e w1 ⟨rfl, hb⟩
  go_wp2
  go_ret
  exact ⟨rfl, hb⟩
end Go.Proofs.YtpgkellmhlmjeaaGreatDoor
namespace Go.Proofs.YtpgkellmhlmjeaaGreatDoor
open Go.RowKit Go.Sort Go.Lib
theorem tab_of {W : World} {r : List (String × DataW Unit)} (h : laidMet Tryz.prog (("internal/strconv.uint64pow10", Rows.laid_internal_strconv_uint64pow10) :: r) W) : Lib.TabIs Tryz.prog W "internal/strconv.uint64pow10" .u64 Lib.pow10Tab :=
  Lib.tabIs_of_head (g := 1) (by kernel_rfl) (by kernel_rfl) Tryz.underlying179 Tryz.underlying91 (by kernel_rfl) (by kernel_rfl) h
end Go.Proofs.YtpgkellmhlmjeaaGreatDoor
namespace Go.Proofs.YtpgkellmhlmjeaaGreatDoor
open Go.RowKit Go.Sort
/-- What the parsers' walks ask of the program's variables: the table of powers of ten, bytealg's bound, strconv's two errors. -/
structure Vars (w : World) : Prop where
  tab : Tab10 w
  len : ∃ m, w.cell? ⟨2, 0, none⟩ = some (.int .i64 m)
  syn : ∃ t p, w.cell? ⟨7, 0, none⟩ = some (.iface t p)
  rng : ∃ t p, w.cell? ⟨8, 0, none⟩ = some (.iface t p)
theorem Vars.next {w W : World} (h : Vars w) (hb : Below w.heap.size w W) : Vars W := by
  obtain ⟨h1, ⟨m, h2⟩, ⟨t, p, h3⟩, ⟨t', p', h4⟩⟩ := h
  exact ⟨h1.next hb, ⟨m, (hb.cell (p := ⟨_, 0, none⟩) (Lib.lt_of_cell h2)).trans h2⟩, ⟨t, p, (hb.cell (p := ⟨_, 0, none⟩) (Lib.lt_of_cell h3)).trans h3⟩, ⟨t', p', (hb.cell (p := ⟨_, 0, none⟩) (Lib.lt_of_cell h4)).trans h4⟩⟩
theorem strEqB {a b : ByteArray} (h : a = b) : (a.toList == b.toList) = true := by rw [h]; exact beq_self_eq_true _
theorem strNeB {a b : ByteArray} (h : ¬ a = b) : (a.toList == b.toList) = false := by
  rw [beq_eq_false_iff_ne]
  intro e
  rw [ByteArray.toList_eq, ByteArray.toList_eq] at e
  refine h ?_
  obtain ⟨⟨x⟩⟩ := a
  obtain ⟨⟨y⟩⟩ := b
  simp at e
  rw [e]
theorem bytesW_below (w : World) (e : TypeId) (s : ByteArray) : Below w.heap.size w (Lib.bytesWorld w e s) := by
  exact Lib.bytesWorld_below w e s
theorem trim_ex (s : ByteArray) : ∃ T neg, CutS s T neg ∧ Lib.trimPrefix s.data.toList [45] = T.data.toList ∧ T.size ≤ s.size := by
  by_cases h : ∃ h : 0 < s.size, s[0] = 45
  · obtain ⟨h0, h1⟩ := h
    obtain ⟨a, b, c⟩ := cut_neg h0 h1
    exact ⟨_, _, a, c, by omega⟩
  · obtain ⟨a, b⟩ := cut_pos (s := s) (fun h0 h1 => h ⟨h0, h1⟩)
    exact ⟨_, _, a, b, Nat.le_refl _⟩
set_option maxHeartbeats 2000000 in
theorem iReadDecimal_any (s : ByteArray) (w : World) (hs : s.size ≤ 281474976710656) (hV : Vars w) :
    Calls Tryz.prog 147 #[.string s] w fun e w' => e = .returned (.tuple #[.int .i64 (numN s), .bool (numK s)]) ∧ Below w.heap.size w w' := by
  obtain ⟨T, neg, hcut, htr, hts⟩ := trim_ex s
  have HT : Hid (∀ W, Calls Tryz.prog 160 #[.string s, .string ⟨#[45]⟩] W fun e w' => e = .returned (.string T) ∧ W = w') := fun W => by
    refine (Tryz.strings_TrimPrefix s ⟨#[45]⟩ W).mono ?_
    rintro e w' ⟨rfl, rfl⟩
    refine ⟨?_, rfl⟩
    show Ending.returned (.string ⟨(Lib.trimPrefix s.data.toList [45]).toArray⟩) = _
    rw [htr, back_bytes]
  by_cases h18 : 18 < T.size
  · obtain ⟨e1, e2⟩ := num_none_ (num_no hcut (Or.inr h18))
    rw [e1, e2]
    have hlt : (18 : Int) < (T.size : Int) := by omega
    clear hcut htr e1 e2 h18 hV
    go_enter Tryz.func147, Tryz.ntmps147
    go_wp2_with fail
    refine (HT.out _).mono ?_
    rintro e w1 ⟨rfl, rfl⟩
    go_wp2
    go_ret2
    exact ⟨rfl, Below.refl _ _⟩
  · have hlt : ¬ (18 : Int) < (T.size : Int) := by omega
    cases hp : Lib.parseIntB 64 s.data.toList with
    | ok v =>
      have HP : Hid (Calls Tryz.prog 161 #[.string s, .int .i64 10, .int .i64 64] w fun e w' => e = .returned (.tuple #[.int .i64 v, .nilIface]) ∧ Below w.heap.size w w') := by
        refine (Tryz.strconv_ParseInt_10_at64_ok s (by omega) v hp w).mono ?_
        rintro e w' ⟨rfl, h⟩
        refine ⟨rfl, ?_⟩
        rcases h with rfl | ⟨t, rfl⟩
        · exact Below.refl _ _
        · exact bytesW_below _ _ _
      have hb64 := Lib.parseIntB_bounds hp
      have e64 : (2 : Nat) ^ (64 - 1) = 9223372036854775808 := by decide
      rw [e64] at hb64
      have HD : Hid (∀ W, Below w.heap.size w W → Calls Tryz.prog 37 #[.int .i64 v] W fun e w' => e = .returned (.string (decB v)) ∧ Below W.heap.size W w') := fun W hb => iDecimal_any v W (by omega) (by omega) (hV.tab.next hb)
      by_cases hd : decB v = s
      · have hn : numB s = some v := by
          refine numB_some.2 ⟨hd, ?_⟩
          have hdat := dec_data v
          rw [hd] at hdat
          have hz : (Lib.decDigits v.natAbs).length ≤ 18 := by
            unfold CutS at hcut
            have h1 := size_list T
            cases neg
            · simp only [Bool.false_eq_true, if_false] at hcut
              rw [hcut.1] at hdat
              have h2 := congrArg List.length hdat
              rw [List.length_append, h1] at h2
              omega
            · simp only [if_true] at hcut
              rw [hcut] at hdat
              by_cases hn : v < 0
              · rw [if_pos hn] at hdat
                simp at hdat
                rw [← hdat, Array.length_toList]
                have : T.data.size = T.size := rfl
                omega
              · rw [if_neg hn] at hdat
                exfalso
                have hm : (45 : UInt8) ∈ Lib.decDigits v.natAbs := by rw [← List.nil_append (Lib.decDigits _), ← hdat]; simp
                have := dec_digit v.natAbs _ (Nat.le_refl _) 45 hm
                simp at this
          rcases Nat.lt_or_ge v.natAbs 1000000000000000000 with g | g
          · exact g
          · have := dec_len_ge 18 v.natAbs (by simpa using g)
            omega
        obtain ⟨e1, e2⟩ := num_some_ hn
        rw [e1, e2]
        have heq := strEqB hd
        generalize decB v = D at *
        clear hcut htr e1 e2 hV hp hn h18 hd hb64 e64
        go_enter Tryz.func147, Tryz.ntmps147
        go_wp2_with fail
        refine (HT.out _).mono ?_
        rintro e w1 ⟨rfl, rfl⟩
        go_wp2_with fail
        refine HP.out.mono ?_
        rintro e w1 ⟨rfl, hb⟩
        go_wp2_with fail
        refine (HD.out _ hb).mono ?_
        rintro e w2 ⟨rfl, hb2⟩
        have hbb := ext_trans hb hb2
        go_wp2
        go_ret2
        exact ⟨rfl, hbb⟩
      · have hn : numB s = none := by unfold numB; rw [hp]; simp [hd]
        obtain ⟨e1, e2⟩ := num_none_ hn
        rw [e1, e2]
        have heq := strNeB hd
        generalize decB v = D at *
        clear hcut htr e1 e2 hV hp hn h18 hd hb64 e64
        go_enter Tryz.func147, Tryz.ntmps147
        go_wp2_with fail
        refine (HT.out _).mono ?_
        rintro e w1 ⟨rfl, rfl⟩
        go_wp2_with fail
        refine HP.out.mono ?_
        rintro e w1 ⟨rfl, hb⟩
        go_wp2_with fail
        refine (HD.out _ hb).mono ?_
        rintro e w2 ⟨rfl, hb2⟩
        have hbb := ext_trans hb hb2
        go_wp2
        go_ret2
        exact ⟨rfl, hbb⟩
    | range =>
      have hn : numB s = none := by unfold numB; rw [hp]
      obtain ⟨e1, e2⟩ := num_none_ hn
      rw [e1, e2]
      obtain ⟨tp, p, hcell⟩ := hV.rng
      have HP := Lib.hid (Tryz.strconv_ParseInt_10_at64_range s hs hp (.iface tp p) w hcell (Or.inr ⟨tp, p, rfl⟩))
      clear hcut htr e1 e2 hV hp hn hcell h18
      go_enter Tryz.func147, Tryz.ntmps147
      go_wp2_with fail
      refine (HT.out _).mono ?_
      rintro e w1 ⟨rfl, rfl⟩
      go_wp2_with fail
      refine HP.out.mono ?_
      rintro e w1 ⟨N, rfl, _, _, hb⟩
      go_wp2
      go_ret2
      exact ⟨rfl, hb⟩
    | _ =>
      have hn : numB s = none := by unfold numB; rw [hp]
      obtain ⟨e1, e2⟩ := num_none_ hn
      rw [e1, e2]
      obtain ⟨tp, p, hcell⟩ := hV.syn
      have HP := Lib.hid (Any.strconv_ParseInt_10_at64_syntax Tryz.laysC174 s hs hp (.iface tp p) w hcell (Or.inr ⟨tp, p, rfl⟩))
      clear hcut htr e1 e2 hV hp hn hcell h18
      go_enter Tryz.func147, Tryz.ntmps147
      go_wp2_with fail
      refine (HT.out _).mono ?_
      rintro e w1 ⟨rfl, rfl⟩
      go_wp2_with fail
      refine HP.out.mono ?_
      rintro e w1 ⟨N, rfl, _, _, hb⟩
      go_wp2
      go_ret2
      exact ⟨rfl, hb⟩
end Go.Proofs.YtpgkellmhlmjeaaGreatDoor
namespace Go
/-- A row with a further condition on memory, the world's shape handed on. -/
theorem returnsInHanded_of_change_and_shaped {H : Type} {enc : TypeId × Value → H} {a : Assume} {C : Checked} {os : Os} {f : FuncId} {fn : Func} {s : ChangeSpec} {conds : List PathCond} {apart fresh handsOn again : Bool} {X : World → Array Value → Prop}
    (hX : ∀ (w w' : World) (args : Array Value), w.heap = w'.heap → X w args → X w' args)
    (own : ownKnob C.prog.godebug = none) (started : os.Started) (noInit : C.prog.inits.idxOf? f = none) (hfn : C.prog.funcs[f]? = some fn)
    (witness : ∃ (w : World) (tape : Tape) (i : Input), w.os = os ∧ (w.forCall tape i).Shaped C.prog ∧ i.vars = [] ∧ Input.okWide C.prog (w.forCall tape i) .any w.heap.size f i ∧
      ((s.pre enc C.prog fn conds apart (w.forCall tape i).memory i.args ∧ X (w.forCall tape i).memory i.args) ∧ sizedMet enc C.prog fn (OpenSpec.ofChange s) apart (w.forCall tape i).memory i.args) ∧ a.holds C.prog (lone (Frame.enter C.prog f i.args .normal) [] (w.forCall tape i)))
    (contract : ∀ (W : World) (base : Nat) (args : Array Value) (ds gs : List (DataW H)) (before : List MemPlace),
      (∀ (j : Nat) t v, fn.params[j]? = some t → args[j]? = some v → Value.okWide C.prog W .any base t v) →
      DataW.Whole enc C.prog fn.params.toList s.vars apart W args.toList ds gs before →
      conds.all (PathCond.test C.prog ⟨fn.params.toList, ds, s.plain.varTypes C.prog, gs⟩) = true →
      (DataW.weightsEach C.prog (fn.params.toList ++ s.plain.varTypes C.prog) (ds ++ gs)).all (· ≤ reachBytes) = true → X W args → W.ShapedOpen C.prog →
      a.holds C.prog (lone (Frame.enter C.prog f args .normal) [] W) →
      Calls C.prog f args W fun e W' => ∃ v, e = .returned v ∧ s.post enc C.prog fn apart fresh handsOn again W args v W') :
    ReturnsInHanded a C os f .any (fun w args => (s.pre enc C.prog fn conds apart w args ∧ X w args) ∧ sizedMet enc C.prog fn (OpenSpec.ofChange s) apart w args) (s.post enc C.prog fn apart fresh handsOn again) := by
  refine returnsInHanded_of_calls own started noInit witness ?_
  intro w tape i _ hsh _ hok hpre hholds
  obtain ⟨_, _, _, fn', hfn', _, _, _, _, hval⟩ := hok
  obtain rfl : fn' = fn := Option.some.inj (hfn'.symm.trans hfn)
  obtain ⟨⟨⟨ds, gs, before, hw, hc⟩, hx⟩, hz⟩ := hpre
  refine (contract (w.forCall tape i) w.heap.size i.args ds gs before hval (DataW.Whole.of_heap (w' := w.forCall tape i) (by rfl) hw) hc (hz.weights hw) (hX _ _ _ (by rfl) hx) hsh hholds).mono fun e W' ⟨v, he, hp⟩ => ?_
  subst he
  exact ChangeSpec.post_blind hp
end Go
namespace Go.Proofs.YtpgkellmhlmjeaaGreatDoor
open Go.RowKit Go.Sort Go.Lib
theorem len_of {W : World} (h : W.ShapedOpen Tryz.prog) : ∃ m, W.cell? ⟨2, 0, none⟩ = some (.int .i64 m) :=
  cell_of_shapedOpen_int (t := 3) (zero := #[.int .i64 0]) h (of_decide_eq_true (by kernel_rfl)) (by kernel_rfl) rfl (by kernel_rfl) (by kernel_rfl) Tryz.underlying3
theorem star_err : "*" ++ "errors.errorString" = "*errors.errorString" := by decide
theorem row_err (u : TypeId) (h : Tryz.prog.typeName? 3 u = some "*errors.errorString") : u = 212 :=
  typeName_ptr_named (nm := "errors.errorString") (by rw [star_err]; kernel_rfl) (by kernel_rfl) (by decide) u (by rw [star_err]; exact h)
theorem syn_of {W : World} {text : List UInt8} {r : List (String × DataW Unit)} (h : laidMet Tryz.prog (("strconv.ErrSyntax", .iface "*errors.errorString" (.ptr (.agg [.lit (.string text)]))) :: r) W) : ∃ t p, W.cell? ⟨7, 0, none⟩ = some (.iface t p) := by
  obtain ⟨a, s, hv, _⟩ := laid_sentinel (g := 7) (ti := 174) h (by kernel_rfl) (by kernel_rfl) Tryz.underlying174 row_err Tryz.underlying212 Tryz.underlying214 rfl rfl Tryz.underlying9 (by kernel_rfl) (by kernel_rfl)
  exact ⟨_, _, by have h0 := World.var?_cell (g := 7) (by kernel_rfl) hv 0; simpa using h0⟩
theorem rng_of {W : World} {text : List UInt8} {r : List (String × DataW Unit)} (h : laidMet Tryz.prog (("strconv.ErrRange", .iface "*errors.errorString" (.ptr (.agg [.lit (.string text)]))) :: r) W) : ∃ t p, W.cell? ⟨8, 0, none⟩ = some (.iface t p) := by
  obtain ⟨a, s, hv, _⟩ := laid_sentinel (g := 8) (ti := 174) h (by kernel_rfl) (by kernel_rfl) Tryz.underlying174 row_err Tryz.underlying212 Tryz.underlying214 rfl rfl Tryz.underlying9 (by kernel_rfl) (by kernel_rfl)
  exact ⟨_, _, by have h0 := World.var?_cell (g := 8) (by kernel_rfl) hv 0; simpa using h0⟩
end Go.Proofs.YtpgkellmhlmjeaaGreatDoor
