/- Parts of the proof, merged: DrawCfP DrawFW DrawLW DrawRvW DrawSdW RuoW. No condition but those that each theorem names. -/
import Derived.Test.YtpgkellmhlmjeaaGreatDoorMgAV
import Derived.Test.YtpgkellmhlmjeaaGreatDoorMgAW
import Derived.Test.YtpgkellmhlmjeaaGreatDoorMgAT
import Derived.Test.YtpgkellmhlmjeaaGreatDoorMgAB
import Derived.Test.YtpgkellmhlmjeaaGreatDoorMgAE
import Derived.Test.YtpgkellmhlmjeaaGreatDoorMgAC
import Derived.Deep.RegionHeld3
import Derived.IntWalk
import Derived.Test.YtpgkellmhlmjeaaGreatDoorMgAH
import Derived.Deep.AppendLies
import Derived.Test.YtpgkellmhlmjeaaGreatDoorMgAD
namespace Go.Proofs.YtpgkellmhlmjeaaGreatDoor
open Go.RowKit Go.Sort
/-- No certificate, or one with numbers, not too many. -/
def PK (k : Int) (xs : List Int) : Prop := k = 0 ∨ (k ≠ 0 ∧ 1 ≤ xs.length ∧ xs.length ≤ 405)
theorem pk_gcd (a b : Int) : PK (pgK a b) (pgX a b) := by
  unfold PK pgK pgX
  by_cases h : pgC a b = 0 <;> simp [h]
theorem pk_root (n : Int) : PK (prK n) (prX n) := by
  unfold PK prK prX
  by_cases h : prC n = 0 <;> simp [h]
theorem pk_lin (a b c : Int) : PK (linK a b c) (linX a b c) := by
  unfold PK linK linX
  by_cases h : linC a b c = 0 <;> simp [h]
theorem pk_unit (d : Int) (h : utC d = 0) : 1 ≤ (puX d).length ∧ (puX d).length ≤ 405 := by
  have hl := puX_length d
  obtain ⟨_, p, hp⟩ := utC_zero h
  refine ⟨?_, by omega⟩
  rw [(puX_good (x := p.1) (y := p.2) h (by simpa using hp)).1]
  simp
theorem pk_period (s : Sd) (h : pdC s = 0) : 1 ≤ (ppX s).length ∧ (ppX s).length ≤ 405 := by
  unfold pdC at h
  split at h
  · rename_i hs
    split at h
    · rename_i hp
      obtain ⟨R, hR⟩ := Option.isSome_iff_exists.1 hp
      have hf := per_facts 400 [] s R hR
      have hR' : pdR s = some R := by unfold pdR; rw [if_pos hs]; exact hR
      unfold ppX
      rw [hR']
      simp only [List.length_append, List.length_cons, List.length_nil, headOf, cycOf, List.length_map, List.length_take, List.length_drop] at hf ⊢
      omega
    · cases h
  · cases h
/-- Two numbers with multipliers of 1 have no divisor in common. -/
theorem gcd_of_det {a b x y : Int} (h : x * b - a * y = 1) : Int.gcd a b = 1 := by
  have h1 : (Int.gcd a b : Int) ∣ 1 := by
    rw [← h]
    exact Int.dvd_sub (Int.dvd_trans (Int.gcd_dvd_right ..) (Int.dvd_mul_left _ _)) (Int.dvd_trans (Int.gcd_dvd_left ..) (Int.dvd_mul_right _ _))
  have := Int.eq_one_of_dvd_one (by omega) h1
  omega
theorem best_code {n d p q : Int} (s : SmF n d) (h : FB n d p q) : bestC true [(n, d), (p, q)] = 0 := by
  have ok : fracOk n d = true ∧ smallFB n d = true := by
    refine ⟨fracOk_true.2 ⟨s.d1, ?_, ?_, ?_, s.cop⟩, ?_⟩
    · have := s.d2; omega
    · have := s.n1; omega
    · have := s.n2; omega
    · unfold smallFB
      simp only [Bool.and_eq_true, inR_true, decide_eq_true_eq]
      have := s.n1
      have := s.n2
      have := s.d2
      omega
  have ok2 : fracOk p q = true ∧ smallFB p q = true := by
    rcases h with ⟨rfl, rfl⟩ | ⟨A, B, C, E, F, S, hb⟩
    · exact ok
    · obtain ⟨ba, bb, bc, be⟩ := S.1.bd F
      unfold big6 at ba bb bc be
      have b1 := S.1.b1
      have e1 := S.1.e1
      have hdet := S.1.det
      unfold isB frEq at hb
      simp only [Bool.or_eq_true, Bool.and_eq_true, decide_eq_true_eq, beq_iff_eq] at hb
      have hp : (p = A ∧ q = B) ∨ (p = C ∧ q = E) := by
        rcases hb with ⟨⟨h1, h2⟩, _⟩ | ⟨⟨h1, h2⟩, _⟩
        · exact .inl ⟨h1, h2⟩
        · exact .inr ⟨h1, h2⟩
      unfold smallFB
      simp only [Bool.and_eq_true, inR_true, decide_eq_true_eq]
      rcases hp with ⟨rfl, rfl⟩ | ⟨rfl, rfl⟩
      · exact ⟨fracOk_true.2 ⟨b1, by omega, by omega, by omega, gcd_of_det (x := C) (y := E) (by omega)⟩, by omega⟩
      · exact ⟨fracOk_true.2 ⟨e1, by omega, by omega, by omega, gcd_of_det (x := -A) (y := -B) (by grind)⟩, by omega⟩
  unfold bestC
  simp [ok.1, ok.2, ok2.1, ok2.2]
/-- What the list holds is proved to be best. -/
theorem best_draw {n d p q : Int} (s : SmF n d) (h : FB n d p q) : ∃ xs : List Int, Hid (∀ W, Calls Tryz.prog 119 #[fracV n d, fracV p q] W (RetCertC W 6 xs 0)) ∧ 1 ≤ xs.length ∧ xs.length ≤ 405 := by
  have h0 := best_code s h
  rcases h with ⟨rfl, rfl⟩ | ⟨A, B, C, E, F, S, hb⟩
  · have HB : Hid (∀ W, Calls Tryz.prog 45 #[fracV p q, fracV p q] W fun e w' => e = .returned (.bool true) ∧ Below W.heap.size W w') := fun W => by
      have := l18First_near p q p q W (Int.le_refl _)
      simpa [frEq] using this
    exact ⟨_, Lib.hid fun W => sProveBest_yes p q p q p q p q W (Lib.hid fun W' => sIsBestFirst_is_good p q p q true W' h0 HB) (Lib.hid fun W' => l18Sides_near p q q W' (Int.le_refl _)), by simp, by simp⟩
  · have HB : Hid (∀ W, Calls Tryz.prog 45 #[fracV n d, fracV p q] W fun e w' => e = .returned (.bool true) ∧ Below W.heap.size W w') := fun W => by
      have := l18First_far n d p q A B C E W F S
      rw [hb] at this
      exact this
    exact ⟨_, Lib.hid fun W => sProveBest_yes n d p q A B C E W (Lib.hid fun W' => sIsBestFirst_is_good n d p q true W' h0 HB) (Lib.hid fun W' => l18Sides_far n d q A B C E W' F S), by simp, by simp⟩
/-- The two roots that the draw falls back to. -/
theorem root_draw (y : Int) (h1 : 0 ≤ y) (h2 : y ≤ 1) : ∃ xs : List Int, Hid (∀ W, Calls Tryz.prog 114 #[.int .i64 (2 + y)] W (RetCertC W 2 xs 0)) ∧ 1 ≤ xs.length ∧ xs.length ≤ 405 := by
  have hc : prC (2 + y) = 0 ∧ prK (2 + y) = 2 := by
    have : y = 0 ∨ y = 1 := by omega
    rcases this with rfl | rfl
    · have : prC (2 + 0) = 0 := by kernel_rfl
      exact ⟨this, by unfold prK; rw [if_pos this]⟩
    · have : prC (2 + 1) = 0 := by kernel_rfl
      exact ⟨this, by unfold prK; rw [if_pos this]⟩
  refine ⟨prX (2 + y), Lib.hid fun W => ?_, ?_, ?_⟩
  · have := sProveRoot_any (2 + y) W
    rw [hc.1, hc.2] at this
    exact this
  · unfold prX; rw [if_pos hc.1]; simp
  · unfold prX; rw [if_pos hc.1]; simp
end Go.Proofs.YtpgkellmhlmjeaaGreatDoor
namespace Go.Proofs.YtpgkellmhlmjeaaGreatDoor
open Go.RowKit Go.Sort
theorem B2.keep {g h : Nat} {x y : Int} {W W' : World} (hb : B2 h x y W) (k : Keep g W W') (hg : h ≠ g) : B2 h x y W' :=
  ⟨(k.cell hg hb.2.2.2).trans hb.1, (k.cell hg hb.2.2.2).trans hb.2.1, fun j => (k.frozen hg hb.2.2.2).trans (hb.2.2.1 j), Nat.lt_of_lt_of_le hb.2.2.2 k.2.1⟩
/-- The state of a draw: the source in g, the result in w's first new block. -/
def S0 (g B N : Nat) (w W : World) : Prop := Src g B N W ∧ Keep g w W ∧ B2 w.heap.size 0 0 W ∧ g < w.heap.size
section
variable {g B N : Nat} {w : World} {h : Nat} {a b : Int} {W : World}
theorem Src.lt {g B N : Nat} {W : World} (h : Src g B N W) : g < W.heap.size := by
  obtain ⟨A, n, c, bs, k, sd, h0, h1, h2, h3, h4, h5, h6, h7, h8, h9, h10, h11⟩ := h; exact h10
theorem S0.start (hs : Src g B N w) (T : TypeId) : S0 g B N w (w.alloc (.cells #[.int .i64 0, .int .i64 0] T)) :=
  ⟨hs.next (ext1 _ _), Keep.of (ext1 _ _) hs.lt, B2.new _ _ _ _, hs.lt⟩
theorem S0.keep {M : Nat} {W' : World} (t : S0 g B N w W) (hs : Src g B M W') (k : Keep g W W') : S0 g B M w W' := by
  obtain ⟨t1, t2, t3, t4⟩ := t
  exact ⟨hs, t2.trans k, t3.keep k (by omega), t4⟩
theorem S0.next {W' : World} (t : S0 g B N w W) (hb : Below W.heap.size W W') : S0 g B N w W' := t.keep (t.1.next hb) (Keep.of hb (Nat.lt_of_lt_of_le t.2.2.2 t.2.1.2.1))
end
end Go.Proofs.YtpgkellmhlmjeaaGreatDoor
namespace Go.Proofs.YtpgkellmhlmjeaaGreatDoor
open Go.RowKit Go.Sort
theorem lo_sm {n d : Int} (d1 : 1 ≤ d) (d2 : d ≤ 2000) (n1 : -2000 ≤ n) (n2 : n ≤ 2000) : fracOk (qN n d) (qD n d) = true ∧ -2000 ≤ qN n d ∧ qN n d ≤ 2000 ∧ qD n d ≤ 2000 := by
  have hg := gcd_pos' (n := n) (d := d) (by omega)
  have e1 : qN n d = n / (Int.gcd n d : Int) := by rw [qN, if_neg (by omega)]
  have e2 : qD n d = d / (Int.gcd n d : Int) := by rw [qD]; congr 1; omega
  obtain ⟨q1, q2⟩ := ediv_bd (M := 2000) hg n1 n2
  obtain ⟨q3, q4⟩ := ediv_bd (M := 2000) hg (show -2000 ≤ d by omega) d2
  rw [fracOk_true, e1, e2]
  refine ⟨⟨?_, by omega, by omega, by omega, ?_⟩, q1, q2, q4⟩
  · rw [Int.le_ediv_iff_mul_le hg]
    have : Int.gcd n d ≤ d.natAbs := Nat.le_of_dvd (by omega) (by exact Nat.gcd_dvd_right _ _)
    omega
  · exact Int.gcd_ediv_gcd_ediv_gcd_of_ne_zero_right (by omega)
/-- What a draw of a small fraction returns. -/
def RetFs (g B N : Nat) (w : World) (e : Ending) (w' : World) : Prop := ∃ a b : Int, e = .returned (fracV a b) ∧ (fracOk a b = true ∧ -2000 ≤ a ∧ a ≤ 2000 ∧ b ≤ 2000) ∧ Src g B N w' ∧ Keep g w w'
theorem S0.retS {g B N M : Nat} {w W : World} (t : S0 g B N w W) {a b : Int} (h : fracOk a b = true ∧ -2000 ≤ a ∧ a ≤ 2000 ∧ b ≤ 2000) (hM : N ≤ M) (x y : Value) (a' b' : Int) (ha : a' = a) (hb : b' = b) : RetFs g B M w (.returned (fracV a' b')) ((W.setCell ⟨w.heap.size, 0, none⟩ x).setCell ⟨w.heap.size, 1, none⟩ y) := by
  subst ha hb
  obtain ⟨t1, t2, t3, t4⟩ := t
  exact ⟨_, _, rfl, h, ((t1.setOther t4 _ _).setOther t4 _ _).more hM, (t2.setOther t4 (Nat.le_refl _) _ _).setOther t4 (Nat.le_refl _) _ _⟩
theorem l02Make_sm (n d : Int) (w : World) (n1 : -2000 ≤ n) (n2 : n ≤ 2000) (d1 : 1 ≤ d) (d2 : d ≤ 2000) :
    Calls Tryz.prog 140 #[.int .i64 n, .int .i64 d] w fun e w' => ∃ u v, e = .returned (fracV u v) ∧ (fracOk u v = true ∧ -2000 ≤ u ∧ u ≤ 2000 ∧ v ≤ 2000) ∧ Below w.heap.size w w' :=
  (l02Make_any n d w (by omega) (by omega) d1 (by omega)).mono fun _ _ h => ⟨_, _, h.1, lo_sm d1 d2 n1 n2, h.2⟩
set_option maxHeartbeats 1000000 in
theorem l02Draw150_any (g B N : Nat) (w : World) (h : Src g B N w) (hN : N ≤ 900000) :
    Calls Tryz.prog 98 #[.pointer (some ⟨g, 0, none⟩), .int .i64 150] w (RetFs g B (N + 8) w) := by
  have T := Lib.hid (S0.start h 41)
  clear h
  go_enter Tryz.func98, Tryz.ntmps98
  go_wp2_with fail
  refine (srcPick_any g B N 301 _ T.out.1 (by omega) (by omega)).mono ?_
  rintro e w1 ⟨x, x1, x2, rfl, S1, K1⟩
  have T := Lib.hid (T.out.keep S1 K1)
  go_wp2_with fail
  refine (srcOne_any g B _ 2 _ T.out.1 (by omega) (by omega)).mono ?_
  rintro e w2 ⟨b, rfl, S2, K2⟩
  have T := Lib.hid (T.out.keep S2 K2)
  clear S1 K1 S2 K2
  cases b
  · go_wp2_with fail
    refine (srcPick_any g B _ 150 _ T.out.1 (by omega) (by omega)).mono ?_
    rintro e w4 ⟨y, y1, y2, rfl, S4, K4⟩
    have T := Lib.hid (T.out.keep S4 K4)
    go_wp2_with fail
    refine (l02Make_sm _ _ _ (by omega) (by omega) (by omega) (by omega)).mono ?_
    rintro e w5 ⟨u, v, rfl, hok, hb5⟩
    have T := Lib.hid (T.out.next hb5)
    clear hb5 S4 K4
    obtain ⟨r0, r1, rf, rl⟩ := T.out.2.2.1
    have rf0 := rf 0
    have rf1 := rf 1
    clear rf
    obtain ⟨s0, s1⟩ := set_two r0 r1
    go_wp2
    refine bodyPost_ret ?_ rfl (S0.retS T.out hok (by omega) _ _ u v rfl rfl)
    simp [results, Tryz.results98, go_sem, s0, s1]
  · go_wp2_with fail
    refine (srcPick_any g B _ 151 _ T.out.1 (by omega) (by omega)).mono ?_
    rintro e w3 ⟨z, z1, z2, rfl, S3, K3⟩
    have T := Lib.hid ((T.out.keep S3 K3))
    clear S3 K3
    go_wp2_with fail
    refine (srcPick_any g B _ 150 _ T.out.1 (by omega) (by omega)).mono ?_
    rintro e w4 ⟨y, y1, y2, rfl, S4, K4⟩
    have T := Lib.hid (T.out.keep S4 K4)
    go_wp2_with fail
    refine (l02Make_sm _ _ _ (by omega) (by omega) (by omega) (by omega)).mono ?_
    rintro e w5 ⟨u, v, rfl, hok, hb5⟩
    have T := Lib.hid (T.out.next hb5)
    clear hb5 S4 K4
    obtain ⟨r0, r1, rf, rl⟩ := T.out.2.2.1
    have rf0 := rf 0
    have rf1 := rf 1
    clear rf
    obtain ⟨s0, s1⟩ := set_two r0 r1
    go_wp2
    refine bodyPost_ret ?_ rfl (S0.retS T.out hok (by omega) _ _ u v rfl rfl)
    simp [results, Tryz.results98, go_sem, s0, s1]
set_option maxHeartbeats 1000000 in
theorem l02Draw2000_any (g B N : Nat) (w : World) (h : Src g B N w) (hN : N ≤ 900000) :
    Calls Tryz.prog 98 #[.pointer (some ⟨g, 0, none⟩), .int .i64 2000] w (RetFs g B (N + 8) w) := by
  have T := Lib.hid (S0.start h 41)
  clear h
  go_enter Tryz.func98, Tryz.ntmps98
  go_wp2_with fail
  refine (srcPick_any g B N 4001 _ T.out.1 (by omega) (by omega)).mono ?_
  rintro e w1 ⟨x, x1, x2, rfl, S1, K1⟩
  have T := Lib.hid (T.out.keep S1 K1)
  go_wp2_with fail
  refine (srcOne_any g B _ 2 _ T.out.1 (by omega) (by omega)).mono ?_
  rintro e w2 ⟨b, rfl, S2, K2⟩
  have T := Lib.hid (T.out.keep S2 K2)
  clear S1 K1 S2 K2
  cases b
  · go_wp2_with fail
    refine (srcPick_any g B _ 2000 _ T.out.1 (by omega) (by omega)).mono ?_
    rintro e w4 ⟨y, y1, y2, rfl, S4, K4⟩
    have T := Lib.hid (T.out.keep S4 K4)
    go_wp2_with fail
    refine (l02Make_sm _ _ _ (by omega) (by omega) (by omega) (by omega)).mono ?_
    rintro e w5 ⟨u, v, rfl, hok, hb5⟩
    have T := Lib.hid (T.out.next hb5)
    clear hb5 S4 K4
    obtain ⟨r0, r1, rf, rl⟩ := T.out.2.2.1
    have rf0 := rf 0
    have rf1 := rf 1
    clear rf
    obtain ⟨s0, s1⟩ := set_two r0 r1
    go_wp2
    refine bodyPost_ret ?_ rfl (S0.retS T.out hok (by omega) _ _ u v rfl rfl)
    simp [results, Tryz.results98, go_sem, s0, s1]
  · go_wp2_with fail
    refine (srcPick_any g B _ 2001 _ T.out.1 (by omega) (by omega)).mono ?_
    rintro e w3 ⟨z, z1, z2, rfl, S3, K3⟩
    have T := Lib.hid ((T.out.keep S3 K3))
    clear S3 K3
    go_wp2_with fail
    refine (srcPick_any g B _ 2000 _ T.out.1 (by omega) (by omega)).mono ?_
    rintro e w4 ⟨y, y1, y2, rfl, S4, K4⟩
    have T := Lib.hid (T.out.keep S4 K4)
    go_wp2_with fail
    refine (l02Make_sm _ _ _ (by omega) (by omega) (by omega) (by omega)).mono ?_
    rintro e w5 ⟨u, v, rfl, hok, hb5⟩
    have T := Lib.hid (T.out.next hb5)
    clear hb5 S4 K4
    obtain ⟨r0, r1, rf, rl⟩ := T.out.2.2.1
    have rf0 := rf 0
    have rf1 := rf 1
    clear rf
    obtain ⟨s0, s1⟩ := set_two r0 r1
    go_wp2
    refine bodyPost_ret ?_ rfl (S0.retS T.out hok (by omega) _ _ u v rfl rfl)
    simp [results, Tryz.results98, go_sem, s0, s1]
set_option maxHeartbeats 1000000 in
theorem l18Draw_any (g B N : Nat) (w : World) (h : Src g B N w) (hN : N ≤ 800000) :
    Calls Tryz.prog 48 #[.pointer (some ⟨g, 0, none⟩)] w (RetFs g B (N + 12) w) := by
  have T := Lib.hid (S0.start h 41)
  clear h
  go_enter Tryz.func48, Tryz.ntmps48
  go_wp2_with fail
  refine (srcOne_any g B N 4 _ T.out.1 (by omega) (by omega)).mono ?_
  rintro e w1 ⟨b, rfl, S1, K1⟩
  have T := Lib.hid (T.out.keep S1 K1)
  clear S1 K1
  cases b
  · go_wp2_with fail
    refine (l02Draw150_any g B _ _ T.out.1 (by omega)).mono ?_
    rintro e w2 ⟨u, v, rfl, hok, S2, K2⟩
    have T := Lib.hid (T.out.keep S2 K2)
    clear S2 K2
    obtain ⟨r0, r1, rf, rl⟩ := T.out.2.2.1
    have rf0 := rf 0
    have rf1 := rf 1
    clear rf
    obtain ⟨s0, s1⟩ := set_two r0 r1
    go_wp2
    refine bodyPost_ret ?_ rfl (S0.retS T.out hok (by omega) _ _ u v rfl rfl)
    simp [results, Tryz.results48, go_sem, s0, s1]
  · go_wp2_with fail
    refine (l02Draw2000_any g B _ _ T.out.1 (by omega)).mono ?_
    rintro e w2 ⟨u, v, rfl, hok, S2, K2⟩
    have T := Lib.hid (T.out.keep S2 K2)
    clear S2 K2
    obtain ⟨r0, r1, rf, rl⟩ := T.out.2.2.1
    have rf0 := rf 0
    have rf1 := rf 1
    clear rf
    obtain ⟨s0, s1⟩ := set_two r0 r1
    go_wp2
    refine bodyPost_ret ?_ rfl (S0.retS T.out hok (by omega) _ _ u v rfl rfl)
    simp [results, Tryz.results48, go_sem, s0, s1]
end Go.Proofs.YtpgkellmhlmjeaaGreatDoor
namespace Go.Proofs.YtpgkellmhlmjeaaGreatDoor
open Go.RowKit Go.Sort
theorem BoxV.keepK {g s : Nat} {vs : List Value} {W W' : World} (h : BoxV g vs W) (k : Keep s W W') (hg : g ≠ s) : BoxV g vs W' :=
  ⟨fun j v hv => (k.cell hg h.lt).trans (h.c j v hv), fun j => (k.frozen hg h.lt).trans (h.f j), Nat.lt_of_lt_of_le h.lt k.2.1⟩
section
variable {N M : Nat} {w W W' : World}
end
/-- A rule's and a fraction's cells, held while others are written. -/
@[reducible] def S5 (h1 h2 : Nat) (l c s a b : Int) (W : World) : Prop := W.cell? ⟨h1, 0, none⟩ = some (.int .i64 l) ∧ W.cell? ⟨h1, 1, none⟩ = some (.int .i64 c) ∧ W.cell? ⟨h1, 2, none⟩ = some (.int .i64 s) ∧ W.cell? ⟨h2, 0, none⟩ = some (.int .i64 a) ∧ W.cell? ⟨h2, 1, none⟩ = some (.int .i64 b)
@[reducible] def S3 (h1 : Nat) (l c s : Int) (W : World) : Prop := W.cell? ⟨h1, 0, none⟩ = some (.int .i64 l) ∧ W.cell? ⟨h1, 1, none⟩ = some (.int .i64 c) ∧ W.cell? ⟨h1, 2, none⟩ = some (.int .i64 s)
end Go.Proofs.YtpgkellmhlmjeaaGreatDoor
namespace Go.Proofs.YtpgkellmhlmjeaaGreatDoor
open Go.RowKit Go.Sort
set_option maxHeartbeats 1000000 in
theorem l07DrawD_any (g B N : Nat) (w : World) (h : Src g B N w) (hN : N ≤ 800000) :
    Calls Tryz.prog 46 #[.pointer (some ⟨g, 0, none⟩)] w (RetN g B (N + 6) 2 702 w) := by
  have HS := Lib.hid h
  clear h
  go_enter Tryz.func46, Tryz.ntmps46
  go_wp2_with fail
  refine (srcPick_any g B N 98 _ HS.out (by omega) (by omega)).mono ?_
  rintro e w1 ⟨x, x1, x2, rfl, S1, K1⟩
  have S := Lib.hid S1
  have K := Lib.hid K1
  clear S1 K1 HS
  go_wp2_with fail
  refine (srcOne_any g B _ 3 _ S.out (by omega) (by omega)).mono ?_
  rintro e w2 ⟨b, rfl, S1, K1⟩
  have S := Lib.hid S1
  have K := Lib.hid (K.out.trans K1)
  clear S1 K1
  cases b
  · obtain ⟨q, hq⟩ : ∃ q, sqB (2 + x) = q := ⟨_, rfl⟩
    go_wp2_with fail
    refine (l07Square_any _ _ (by omega) (by omega)).mono ?_
    rw [hq]
    rintro e w' ⟨rfl, rfl⟩
    clear hq
    cases q
    · go_wp2
      go_ret
      exact ⟨_, by omega, by omega, rfl, S.out.more (by omega), K.out⟩
    · go_wp2
      go_ret
      exact ⟨_, by omega, by omega, rfl, S.out.more (by omega), K.out⟩
  · go_wp2_with fail
    refine (srcPick_any g B _ 700 _ S.out (by omega) (by omega)).mono ?_
    rintro e w3 ⟨z, z1, z2, rfl, S1, K1⟩
    have S := Lib.hid S1
    have K := Lib.hid (K.out.trans K1)
    clear S1 K1
    obtain ⟨q, hq⟩ : ∃ q, sqB (2 + z) = q := ⟨_, rfl⟩
    go_wp2_with fail
    refine (l07Square_any _ _ (by omega) (by omega)).mono ?_
    rw [hq]
    rintro e w' ⟨rfl, rfl⟩
    clear hq
    cases q
    · go_wp2
      go_ret
      exact ⟨_, by omega, by omega, rfl, S.out.more (by omega), K.out⟩
    · go_wp2
      go_ret
      exact ⟨_, by omega, by omega, rfl, S.out.more (by omega), K.out⟩
/-- What a draw of a surd returns. -/
def RetSd (g B N : Nat) (w : World) (e : Ending) (w' : World) : Prop := ∃ p d q : Int, e = .returned (.agg #[.int .i64 p, .int .i64 d, .int .i64 q]) ∧ Src g B N w' ∧ Keep g w w'
set_option maxRecDepth 100000 in
set_option maxHeartbeats 2000000 in
theorem l07Draw_any (g B N : Nat) (w : World) (h : Src g B N w) (hN : N ≤ 700000) :
    Calls Tryz.prog 47 #[.pointer (some ⟨g, 0, none⟩)] w (RetSd g B (N + 40) w) := by
  have HG := Lib.hid h.lt
  have S := Lib.hid (h.next (ext1 w (.cells #[.int .i64 0, .int .i64 0, .int .i64 0] 46)))
  have K := Lib.hid (Keep.of (ext1 w (.cells #[.int .i64 0, .int .i64 0, .int .i64 0] 46)) h.lt)
  have R := Lib.hid (BoxV.new w #[.int .i64 0, .int .i64 0, .int .i64 0] 46)
  clear h
  go_enter Tryz.func47, Tryz.ntmps47
  go_wp2_with fail
  generalize w.alloc (.cells #[.int .i64 0, .int .i64 0, .int .i64 0] 46) = W0 at *
  refine (l07DrawD_any g B N _ S.out (by omega)).mono ?_
  rintro e w1 ⟨d, d1, d2, rfl, S1, K1⟩
  have S := Lib.hid S1
  have R := Lib.hid (BoxV.keepK R.out K1 (by have := HG.out; omega))
  have K := Lib.hid (K.out.trans K1)
  clear S1 K1
  go_wp2_with fail
  refine (srcPick_any g B _ 41 _ S.out (by omega) (by omega)).mono ?_
  rintro e w2 ⟨x, x1, x2, rfl, S1, K1⟩
  have S := Lib.hid S1
  have R := Lib.hid (BoxV.keepK R.out K1 (by have := HG.out; omega))
  have K := Lib.hid (K.out.trans K1)
  clear S1 K1
  obtain ⟨p, hp0⟩ : ∃ p, x - 20 = p := ⟨_, rfl⟩
  obtain ⟨m, hm⟩ : ∃ m, p * p = m := ⟨_, rfl⟩
  have hp : -400 ≤ m ∧ m ≤ 400 := by
    have := mul_bd (x := p) (y := p) (M := 20) (N := 20) (by omega) (by omega) (by omega) (by omega) (by omega) (by omega)
    rw [← hm]; omega
  obtain ⟨hp1, hp2⟩ := hp
  have p1 : -20 ≤ p := by omega
  have p2 : p ≤ 20 := by omega
  go_wp2_with fail
  refine (l02Size_any (d - m) _ (by omega) (by omega)).mono ?_
  rintro e w' ⟨rfl, rfl⟩
  obtain ⟨v, hv⟩ : ∃ v : Int, ((d - m).natAbs : Int) = v := ⟨_, rfl⟩
  have v1 : 0 ≤ v := by omega
  have v2 : v ≤ 2000 := by omega
  rw [hv]
  clear hv hm hp0 x1 x2
  go_wp2_with fail
  refine (srcPick_any g B _ 8 _ S.out (by omega) (by omega)).mono ?_
  rintro e w3 ⟨k, k1, k2, rfl, S1, K1⟩
  have S := Lib.hid S1
  have R := Lib.hid (BoxV.keepK R.out K1 (by have := HG.out; omega))
  have K := Lib.hid (K.out.trans K1)
  clear S1 K1
  obtain ⟨k, rfl⟩ : ∃ j : Nat, k = (j : Int) := ⟨k.toNat, by omega⟩
  have hk7 : k ≤ 7 := by omega
  clear k1 k2
  go_wp2_with fail
  go_loopw [7, 6] (fun t u wr => ∃ (k : Nat) (q : Int), t = .int .i64 k ∧ k ≤ 7 ∧ u = .int .i64 q ∧ 1 ≤ q ∧ q ≤ 40 ∧ Hid (Src g B (N + 10 + 2 * (7 - k)) wr) ∧ Hid (Keep g w wr) ∧ Hid (BoxV w.heap.size [.int .i64 0, .int .i64 0, .int .i64 0] wr)) (fun t _ _ => (intOf t).toNat)
  case atStart => exact ⟨k, 1, rfl, hk7, rfl, by omega, by omega, S.out.more (by omega), K, R⟩
  case round =>
    obtain ⟨k, q, rfl, hk, rfl, q1, q2, S, K, R⟩ := hrel
    by_cases h0 : 0 < k
    · go_wp2_with fail
      refine (srcPick_any g B _ 40 _ S.out (by omega) (by omega)).mono ?_
      rintro e w4 ⟨y, y1, y2, rfl, S1, K1⟩
      have S := Lib.hid S1
      have R := Lib.hid (BoxV.keepK R.out K1 (by have := HG.out; omega))
      have K := Lib.hid (K.out.trans K1)
      clear S1 K1
      have y0 : (1 + y == 0) = false := by simp; omega
      go_wp2_with fail
      all_goals go_roundw
      case rel => exact ⟨k - 1, _, val_int (by omega), by omega, rfl, by omega, by omega, S.out.more (by omega), K, R⟩
      case measure => simp [intOf]; omega
      case rel => exact ⟨k - 1, _, val_int (by omega), by omega, rfl, by omega, by omega, S.out.more (by omega), K, R⟩
      case measure => simp [intOf]; omega
    · go_wp2_with fail
      refine (srcOne_any g B _ 4 _ S.out (by omega) (by omega)).mono ?_
      rintro e w4 ⟨b, rfl, S1, K1⟩
      have S := Lib.hid S1
      have R := Lib.hid (BoxV.keepK R.out K1 (by have := HG.out; omega))
      have K := Lib.hid (K.out.trans K1)
      clear S1 K1
      have r0 := R.out.at 0 _ rfl
      have r1 := R.out.at 1 _ rfl
      have r2 := R.out.at 2 _ rfl
      have f0 := R.out.f 0
      have f1 := R.out.f 1
      have f2 := R.out.f 2
      obtain ⟨s0, s1, s2⟩ := set_three r0 r1 r2
      have HE : Hid (∀ a b c, Src g B (N + 40) (((w4.setCell ⟨w.heap.size, 0, none⟩ a).setCell ⟨w.heap.size, 1, none⟩ b).setCell ⟨w.heap.size, 2, none⟩ c) ∧ Keep g w (((w4.setCell ⟨w.heap.size, 0, none⟩ a).setCell ⟨w.heap.size, 1, none⟩ b).setCell ⟨w.heap.size, 2, none⟩ c)) := fun a b c =>
        ⟨(((S.out.more (by omega)).setOther HG.out _ _).setOther HG.out _ _).setOther HG.out _ _, ((K.out.setOther HG.out (Nat.le_refl _) _ _).setOther HG.out (Nat.le_refl _) _ _).setOther HG.out (Nat.le_refl _) _ _⟩
      cases b
      · go_wp2
        refine bodyPost_ret ?_ rfl ⟨p, d, q, rfl, (HE.out _ _ _).1, (HE.out _ _ _).2⟩
        simp [results, Tryz.results47, go_sem, s0, s1, s2]
      · go_wp2
        refine bodyPost_ret ?_ rfl ⟨p, d, -q, rfl, (HE.out _ _ _).1, (HE.out _ _ _).2⟩
        simp [results, Tryz.results47, go_sem, s0, s1, s2]
end Go.Proofs.YtpgkellmhlmjeaaGreatDoor
namespace Go.Proofs.YtpgkellmhlmjeaaGreatDoor
open Go.RowKit Go.Sort
/-- The state of a run. -/
structure RnS (w0 : World) (base bx : Nat) (n d : Int) (sec : Bool) (v0 : Value) (w : World) (a b c e : Int) (full : Bool) (v : Value) (W : World) : Prop where
  lg : LG w0 base bx n d sec full v W
  kl : KL bx v0 v w W
  f : B2 w.heap.size a b W
  g : B2 (w.heap.size + 1) c e W
  r : B2 (w.heap.size + 1 + 1) 0 0 W
  hx : bx < w.heap.size
  n0 : v.ownBlock ≠ some w.heap.size
  n1 : v.ownBlock ≠ some (w.heap.size + 1)
  n2 : v.ownBlock ≠ some (w.heap.size + 1 + 1)
section
variable {w0 : World} {base bx : Nat} {n d : Int} {sec : Bool} {v0 : Value} {w : World} {a b c e : Int} {full : Bool} {v : Value} {W W' : World}
theorem RnS.next (h : RnS w0 base bx n d sec v0 w a b c e full v W) (hb : Below W.heap.size W W') : RnS w0 base bx n d sec v0 w a b c e full v W' :=
  ⟨h.lg.next hb, h.kl.trans (KL.of hb), h.f.next hb, h.g.next hb, h.r.next hb, h.hx, h.n0, h.n1, h.n2⟩
theorem RnS.saw {full' : Bool} {v' : Value} (h : RnS w0 base bx n d sec v0 w a b c e full v W) (hl : LG w0 base bx n d sec full' v' W') (k : KL bx v v' W W') : RnS w0 base bx n d sec v0 w a b c e full' v' W' := by
  have hx := h.hx
  exact ⟨hl, h.kl.trans k, h.f.kl k (by omega) h.n0, h.g.kl k (by omega) h.n1, h.r.kl k (by omega) h.n2, h.hx, (k.block _ h.f.2.2.2 (by omega) h.n0).2, (k.block _ h.g.2.2.2 (by omega) h.n1).2, (k.block _ h.r.2.2.2 (by omega) h.n2).2⟩
theorem LB.setFar {out : List (Int × Int)} (h : LB w0 base bx n d sec full out v W) {g j : Nat} (hg : g ≠ bx) (hb : w0.heap.size ≤ g) (hn : v.ownBlock ≠ some g) (u : Value) : LB w0 base bx n d sec full out v (W.setCell ⟨g, j, none⟩ u) :=
  ⟨h.box.setFar u hg, h.row.setNe hb hn u, h.b0, h.b1, h.ne⟩
theorem LG.setFar (h : LG w0 base bx n d sec full v W) {g j : Nat} (hg : g ≠ bx) (hb : w0.heap.size ≤ g) (hn : v.ownBlock ≠ some g) (u : Value) : LG w0 base bx n d sec full v (W.setCell ⟨g, j, none⟩ u) := by
  obtain ⟨out, h1, h2⟩ := h
  exact ⟨out, h1.setFar hg hb hn u, h2⟩
theorem LG.b1 (h : LG w0 base bx n d sec full v W) : w0.heap.size ≤ bx := by obtain ⟨out, h1, _⟩ := h; exact h1.b1
theorem KL.setFar {v' : Value} (h : KL bx v v' w W) {g j : Nat} (hg : w.heap.size ≤ g) (u : Value) : KL bx v v' w (W.setCell ⟨g, j, none⟩ u) :=
  ⟨by simpa using h.size, fun i hi hx hn => ⟨(Below.heap_setCell W ⟨g, j, none⟩ u i (by intro e; have e : i = g := e; omega)).trans (h.block i hi hx hn).1, (h.block i hi hx hn).2⟩⟩
theorem RnS.done (h : RnS w0 base bx n d sec v0 w a b c e full v W) (x y : Value) : LG w0 base bx n d sec full v ((W.setCell ⟨w.heap.size + 1 + 1, 0, none⟩ x).setCell ⟨w.heap.size + 1 + 1, 1, none⟩ y) ∧ KL bx v0 v w ((W.setCell ⟨w.heap.size + 1 + 1, 0, none⟩ x).setCell ⟨w.heap.size + 1 + 1, 1, none⟩ y) := by
  have hx := h.hx
  have hb := h.lg.b1
  exact ⟨(h.lg.setFar (by omega) (by omega) h.n2 x).setFar (by omega) (by omega) h.n2 y, (h.kl.setFar (by omega) x).setFar (by omega) y⟩
theorem LG.parts (h : LG w0 base bx n d sec full v W) : BoxV bx [.int .i64 n, .int .i64 d, .bool sec, v, .bool full] W ∧ (∀ g, v.ownBlock = some g → g < W.heap.size) := by
  obtain ⟨out, h1, _⟩ := h
  exact ⟨h1.box, fun g hg => (h1.row.1.lt g hg).2⟩
theorem RnS.start (h : LG w0 base bx n d sec full v w) (a b c e : Int) (T : TypeId) : RnS w0 base bx n d sec v w a b c e full v (((w.alloc (.cells #[.int .i64 a, .int .i64 b] T)).alloc (.cells #[.int .i64 c, .int .i64 e] T)).alloc (.cells #[.int .i64 0, .int .i64 0] T)) := by
  obtain ⟨h1, h2⟩ := h.parts
  have hb : Below w.heap.size w (((w.alloc (.cells #[.int .i64 a, .int .i64 b] T)).alloc (.cells #[.int .i64 c, .int .i64 e] T)).alloc (.cells #[.int .i64 0, .int .i64 0] T)) := ext_alloc (ext_alloc (ext1 _ _) _) _
  exact ⟨h.next hb, KL.of hb, ((B2.new w a b T).next (ext1 _ _)).next (ext1 _ _), (B2.new_at (g := w.heap.size + 1) (W := w.alloc (.cells #[.int .i64 a, .int .i64 b] T)) c e T (by simp)).next (ext1 _ _),
    B2.new_at (g := w.heap.size + 1 + 1) (W := (w.alloc (.cells #[.int .i64 a, .int .i64 b] T)).alloc (.cells #[.int .i64 c, .int .i64 e] T)) 0 0 T (by simp), h1.lt, fun e => by have := h2 _ e; omega, fun e => by have := h2 _ e; omega, fun e => by have := h2 _ e; omega⟩
end
set_option maxRecDepth 100000 in
set_option maxHeartbeats 4000000 in
theorem run_any (base bx : Nat) (n d : Int) (sec full : Bool) (v : Value) (a b c e most X Y K : Int) (w0 w : World) (hs : SmF n d) (h : LG w0 base bx n d sec full v w)
    (hX : errV n d a b = X) (hY : errV n d c e = Y) (x1 : 0 ≤ X) (x2 : X ≤ 2000) (y1 : 1 ≤ Y) (y2 : Y ≤ 2000) (a1 : -200000 ≤ a) (a2 : a ≤ 200000) (c1 : -200000 ≤ c) (c2 : c ≤ 200000) (b1 : 1 ≤ b) (b2 : b ≤ most) (e1 : 1 ≤ e) (e2 : e ≤ most) (m2 : most ≤ 2000)
    (hK : min (X / Y) ((most - b) / e) = K) (hd : ∀ k, 1 ≤ k → k ≤ K → b + k * e ≤ d) :
    Calls Tryz.prog 151 #[.pointer (some ⟨bx, 0, none⟩), fracV a b, fracV c e, .int .i64 most] w fun x w' => x = .returned (fracV (a + K * c) (b + K * e)) ∧ ∃ full' v', LG w0 base bx n d sec full' v' w' ∧ KL bx v v' w w' := by
  have HX := Lib.hid (l18Off_any n d a b · ⟨by have := hs.n1; omega, by have := hs.n2; omega⟩ ⟨by have := hs.d1; omega, by have := hs.d2; omega⟩ ⟨by omega, by omega⟩ ⟨by omega, by omega⟩)
  have HY := Lib.hid (l18Off_any n d c e · ⟨by have := hs.n1; omega, by have := hs.n2; omega⟩ ⟨by have := hs.d1; omega, by have := hs.d2; omega⟩ ⟨by omega, by omega⟩ ⟨by omega, by omega⟩)
  rw [hX] at HX
  rw [hY] at HY
  clear hX hY
  have q0 : 0 ≤ X / Y := Int.ediv_nonneg x1 (by omega)
  have q1 : X / Y ≤ 2000 := Int.le_trans (Int.ediv_le_self _ x1) x2
  have p0 : 0 ≤ (most - b) / e := Int.ediv_nonneg (by omega) (by omega)
  have p1 : (most - b) / e ≤ 2000 := Int.le_trans (Int.ediv_le_self _ (by omega)) (by omega)
  have k0 : 0 ≤ K := by omega
  have kq : K ≤ 2000 := by omega
  have HMN := Lib.hid (l00Min_any (X / Y) ((most - b) / e) K hK)
  have HMX := Lib.hid (l00Max_any 1 (X / Y / 2 - 1) (max 1 (X / Y / 2 - 1)) rfl)
  have g0 : 0 ≤ X / Y / 2 := Int.ediv_nonneg q0 (by omega)
  have g1 : X / Y / 2 ≤ 2000 := Int.le_trans (Int.ediv_le_self _ q0) q1
  have HPL : Hid (∀ k, 0 ≤ k → k ≤ 2000 → ∀ W, Calls Tryz.prog 150 #[fracV a b, fracV c e, .int .i64 k] W fun x w' => x = .returned (fracV (a + k * c) (b + k * e)) ∧ Below W.heap.size W w') := by
    intro k z0 z1 W
    obtain ⟨m1, m2'⟩ := mul_bd (x := k) (y := c) (M := 2000) (N := 200000) (by omega) z1 (by omega) c2 (by omega) c1
    obtain ⟨m3, m4⟩ := mul_bd (x := k) (y := e) (M := 2000) (N := 2000) (by omega) z1 (by omega) (by omega) (by omega) (by omega)
    exact l18Plus_any a b c e k W ⟨by omega, by omega⟩ ⟨by omega, by omega⟩ ⟨by omega, by omega⟩ ⟨by omega, by omega⟩
  have HSE : Hid (∀ k, 1 ≤ k → k ≤ K → ∀ (f' : Bool) (u : Value) (W : World), LG w0 base bx n d sec f' u W → Calls Tryz.prog 149 #[.pointer (some ⟨bx, 0, none⟩), fracV (a + k * c) (b + k * e)] W fun e w' => e = .returned (.tuple #[]) ∧ ∃ full' v', LG w0 base bx n d sec full' v' w' ∧ KL bx u v' W w') := by
    intro k z0 z1 f' u W hW
    have := Int.mul_le_mul_of_nonneg_right z0 (show 0 ≤ e by omega)
    exact see_any base bx n d sec f' u _ _ w0 W hs hW (by omega) (hd k z0 z1)
  clear hd hK c1 c2 a1 a2
  have HPK := Lib.hid (HPL.out K k0 kq)
  obtain ⟨P, hP⟩ : ∃ P, a + K * c = P := ⟨_, rfl⟩
  obtain ⟨Q, hQ⟩ : ∃ Q, b + K * e = Q := ⟨_, rfl⟩
  rw [hP, hQ] at HPK ⊢
  clear hP hQ
  have R := Lib.hid (RnS.start h a b c e 41)
  clear h
  unfold fracV at *
  go_enter Tryz.func151, Tryz.ntmps151
  go_wp2_with fail
  generalize ((w.alloc (.cells #[.int .i64 a, .int .i64 b] 41)).alloc (.cells #[.int .i64 c, .int .i64 e] 41)).alloc (.cells #[.int .i64 0, .int .i64 0] 41) = W at *
  have z0 : ∀ x os, (grow (redrawn W x) os).cell? ⟨w.heap.size, 0, none⟩ = some (.int .i64 a) := cell_regrown R.out.f.1
  have z1 : ∀ x os, (grow (redrawn W x) os).cell? ⟨w.heap.size, 1, none⟩ = some (.int .i64 b) := cell_regrown R.out.f.2.1
  have z2 : ∀ x os, (grow (redrawn W x) os).cell? ⟨w.heap.size + 1, 0, none⟩ = some (.int .i64 c) := cell_regrown R.out.g.1
  have z3 : ∀ x os, (grow (redrawn W x) os).cell? ⟨w.heap.size + 1, 1, none⟩ = some (.int .i64 e) := cell_regrown R.out.g.2.1
  have z4 : ∀ x os, (grow (redrawn W x) os).cell? ⟨bx, 0, none⟩ = some (.int .i64 n) := cell_regrown (R.out.lg.parts.1.at 0 _ rfl)
  have z5 : ∀ x os, (grow (redrawn W x) os).cell? ⟨bx, 1, none⟩ = some (.int .i64 d) := cell_regrown (R.out.lg.parts.1.at 1 _ rfl)
  refine wp_region_quiet_below (by kernel_rfl) (by kernel_rfl) ?_
  repeat (first | go_big_quiet_step ((first | (with_reducible exact Calls.regrown_of (HX.out _)) | (with_reducible exact Calls.regrown_of (HY.out _)))) | quiet_step ((first | (with_reducible exact Calls.regrown_of (HX.out _)) | (with_reducible exact Calls.regrown_of (HY.out _)))))
  refine wpQuiet_nil ?_
  intro _ hw'
  obtain ⟨⟨dq, oq⟩, hw''⟩ := hw'
  subst hw''
  obtain ⟨w4, hW4⟩ : ∃ Wq, Wq = grow (redrawn W dq) oq := ⟨_, rfl⟩
  have hb4 : Below W.heap.size W w4 := by rw [hW4]; exact below_regrown _ _ _
  rw [← hW4]
  clear hW4
  obtain ⟨hc4, hf4⟩ := bcell hb4
  have hy4 := hb4.size
  clear z0 z1 z2 z3 z4 z5 hc4 hf4 hy4
  have R := Lib.hid (R.out.next hb4)
  clear hb4
  obtain ⟨r0, r1, _, _⟩ := R.out.f
  obtain ⟨y0, y1', _, _⟩ := R.out.g
  go_wp2_with fail
  refine (HMN.out _).mono ?_
  rintro x w5 ⟨rfl, rfl⟩
  go_wp2_with fail
  refine (HMX.out _).mono ?_
  rintro x w6 ⟨rfl, rfl⟩
  have m1 : 1 ≤ max 1 (X / Y / 2 - 1) := by omega
  have m3 : max 1 (X / Y / 2 - 1) ≤ 3000 := by omega
  generalize max 1 (X / Y / 2 - 1) = m at *
  clear r0 r1 y0 y1'
  go_wp2_with fail
  go_loopw [11] (fun s wr => ∃ (k : Int) (f' : Bool) (u : Value), s = .int .i64 k ∧ 1 ≤ k ∧ k ≤ 3000 ∧ Hid (RnS w0 base bx n d sec v w a b c e f' u wr)) (fun s _ => (3001 - intOf s).toNat)
  case atStart => exact ⟨m, full, _, rfl, m1, m3, R.out⟩
  case round =>
    obtain ⟨k, f', u, rfl, k1, k2, R2⟩ := hrel
    clear R m1 m3
    have cf := R2.out.lg.parts.1.at 4 _ rfl
    obtain ⟨r0, r1, _, _⟩ := R2.out.f
    obtain ⟨y0, y1', _, _⟩ := R2.out.g
    by_cases hk : k ≤ K
    · cases f'
      · have HP := Lib.hid (HPL.out k (by omega) (by omega))
        have HS := Lib.hid (HSE.out k k1 hk)
        obtain ⟨P', hP⟩ : ∃ P, a + k * c = P := ⟨_, rfl⟩
        obtain ⟨Q', hQ⟩ : ∃ Q, b + k * e = Q := ⟨_, rfl⟩
        rw [hP, hQ] at HP HS
        clear hP hQ
        go_wp2_with fail
        refine (HP.out _).mono ?_
        rintro x w7 ⟨rfl, hb7⟩
        have R3 := Lib.hid (R2.out.next hb7)
        clear hb7 cf r0 r1 y0 y1'
        go_wp2_with fail
        refine (HS.out _ _ _ R3.out.lg).mono ?_
        rintro x w8 ⟨rfl, f2, v2, hl2, hk2⟩
        have R4 := Lib.hid (R3.out.saw hl2 hk2)
        clear hl2 hk2
        go_wp2
        go_roundw
        case rel => exact ⟨k + 1, f2, v2, rfl, by omega, by omega, R4.out⟩
        case measure => simp [intOf]; omega
      · skip
        go_wp2_with fail
        refine (HPK.out _).mono ?_
        rintro x w7 ⟨rfl, hb7⟩
        have R3 := Lib.hid (R2.out.next hb7)
        clear hb7 cf r0 r1 y0 y1'
        obtain ⟨t0, t1, tf, _⟩ := R3.out.r
        have tf0 := tf 0
        have tf1 := tf 1
        clear tf
        obtain ⟨s0, s1⟩ := set_two t0 t1
        have hD := Lib.hid (R3.out.done (.int .i64 P) (.int .i64 Q))
        go_wp2
        refine bodyPost_ret (v := fracV P Q) ?_ rfl ⟨rfl, _, _, hD.out⟩
        simp [results, Tryz.results151, go_sem, s0, s1, fracV]
    · cases f'
      all_goals
        go_wp2_with fail
        refine (HPK.out _).mono ?_
        rintro x w7 ⟨rfl, hb7⟩
        have R3 := Lib.hid (R2.out.next hb7)
        clear hb7 cf r0 r1 y0 y1'
        obtain ⟨t0, t1, tf, _⟩ := R3.out.r
        have tf0 := tf 0
        have tf1 := tf 1
        clear tf
        obtain ⟨s0, s1⟩ := set_two t0 t1
        have hD := Lib.hid (R3.out.done (.int .i64 P) (.int .i64 Q))
        go_wp2
        refine bodyPost_ret (v := fracV P Q) ?_ rfl ⟨rfl, _, _, hD.out⟩
        simp [results, Tryz.results151, go_sem, s0, s1, fracV]
end Go.Proofs.YtpgkellmhlmjeaaGreatDoor
