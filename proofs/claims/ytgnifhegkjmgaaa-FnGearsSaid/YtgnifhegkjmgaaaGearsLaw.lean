/- Law: no pair of wheels is nearer than the one that is told, and two pairs have just the ratio. No condition. -/
import Derived.Test.YtgnifhegkjmgaaaBytesW
import Derived.Test.YtgnifhegkjmgaaaDrawGW
import Derived.Test.YtgnifhegkjmgaaaF6W
import Derived.Test.YtgnifhegkjmgaaaGearP
import Derived.Test.YtgnifhegkjmgaaaGearErr
namespace Go.Proofs.Ytgnifhegkjmgaaa.fnGears
open Go.ChangeShapes Go.WideShapes Go.ChangeAt Go.RowKit Go.Sort
open Go.ChangeMaps (open_string shut_string)

theorem rd_next {α : Type} {enc : α → Value} {W W' : World} {A : Option Addr} {xs : List α} (h : Rd enc W W.heap.size A xs) (hb : Below W.heap.size W W') : Rd enc W' W'.heap.size A xs := (h.below hb).more hb.size
theorem f6same (A B : Option Addr) (c d : Nat) (xs : List Int) (w : World) (hx : Rd (Value.int .i64) w w.heap.size A xs) (hy : Rd (Value.int .i64) w w.heap.size B xs) (hm : xs.length ≤ 1000000) :
    Calls Try.prog 23 #[.slice A xs.length c, .slice B xs.length d] w fun e w' => e = .returned (.bool true) ∧ Below w.heap.size w w' := by
  have h := f6ints_any A B c d xs xs w hx hy (by unfold maxLen; omega) (by unfold maxLen; omega)
  simpa using h
theorem gears (N D lo hi : Int) : ∃ p q k : Int, Hid (∀ W, Calls Try.prog 15 #[fracV N D, .int .i64 lo, .int .i64 hi] W fun e w' => e = .returned (.tuple #[.int .i64 p, .int .i64 q, .int .i64 k]) ∧ Below W.heap.size W w') ∧
    Hid (∀ W, Calls Try.prog 16 #[fracV N D, .int .i64 lo, .int .i64 hi] W fun e w' => e = .returned (.tuple #[.int .i64 p, .int .i64 q, .int .i64 k]) ∧ Below W.heap.size W w') ∧
    Hid (k = 0 → (1 ≤ lo ∧ lo ≤ hi ∧ hi ≤ 1000) ∧ (1 ≤ N ∧ N ≤ 1000000 ∧ 1 ≤ D ∧ D ≤ 1000000) ∧ (lo ≤ p ∧ p ≤ hi ∧ lo ≤ q ∧ q ≤ hi) ∧ ∀ y, lo ≤ y → y ≤ hi → errV N D p q * y ≤ errV N D (gL N D lo hi y) y * q) :=
  ⟨_, _, _, iGearFor_any N D lo hi, sGearFor_any N D lo hi, fun h => ⟨(gf_sm h).1, (gf_sm h).2.1, (gf_sm h).2.2, fun _ h1 h2 => (gear_best h h1 h2).2⟩⟩
theorem twos (N D lo hi : Int) : ∃ (xs : List Int) (k : Int), Hid (∀ W, Calls Try.prog 18 #[fracV N D, .int .i64 lo, .int .i64 hi] W (RetInts W xs k)) ∧
    Hid (∀ W, Calls Try.prog 19 #[fracV N D, .int .i64 lo, .int .i64 hi] W (RetInts W xs k)) ∧ xs.length ≤ 1000000 ∧
    Hid (k = 0 → fourB N D xs ∧ (1 ≤ N ∧ N ≤ 1000000 ∧ 1 ≤ D ∧ D ≤ 1000000)) := by
  refine ⟨_, _, iTwoGears_any N D lo hi, sTwoGears_any N D lo hi, ?_, fun h => two_four h⟩
  by_cases h : twoC N D lo hi = 0
  · obtain ⟨⟨a, b, c, d, e, _⟩, _⟩ := two_four h
    rw [e]; simp
  · have : twoX N D lo hi = [] := by
      unfold twoX
      split
      · rename_i h0
        unfold twoC at h
        rw [if_pos h0] at h
        cases hR : tgB N D lo hi (hi + 1 - lo).toNat with
        | none => rfl
        | some xs => rw [hR] at h; exact absurd rfl h
      · rfl
    rw [this]; simp
theorem errs (N D a b : Int) : ∃ n d k : Int, Hid (∀ W, Calls Try.prog 21 #[fracV N D, .int .i64 a, .int .i64 b] W fun e w' => e = .returned (.tuple #[fracV n d, .int .i64 k]) ∧ Below W.heap.size W w') ∧
    Hid (∀ W, Calls Try.prog 22 #[fracV N D, .int .i64 a, .int .i64 b] W fun e w' => e = .returned (.tuple #[fracV n d, .int .i64 k]) ∧ Below W.heap.size W w') :=
  ⟨_, _, _, iGearError_any N D a b, sGearError_any N D a b⟩
set_option maxRecDepth 100000 in
set_option maxHeartbeats 8000000 in
theorem walkG (A : Option Addr) (n c : Nat) (w : World) (h : Bytes w A n) (hn : n ≤ 4096) :
    Calls Try.prog 3 #[.slice A n c] w fun e w' => e = .returned (.bool true) ∧ Below w.heap.size w w' := by
  have By := Lib.hid h
  have HE := Lib.hid (Below.refl w.heap.size w)
  have hf : ¬ 4096 < (n : Int) := by omega
  have hf6 : Hid (∀ W, Calls Try.prog 13 #[.slice A n c] W fun e w' => e = .returned (.bool false) ∧ W = w') := fun W => by
    have h := f6big_any A n c W
    rwa [decide_eq_false hf] at h
  have q1 := Try.eqGuardType25
  have q2 := Try.stoodInHeld25
  clear h hn hf
  go_enter Try.func3, Try.ntmps3
  go_wp2_with fail
  refine (hf6.out _).mono ?_
  rintro e w' ⟨rfl, rfl⟩
  go_wp2_with fail
  refine (drawGearFor_any A n c _ By.out).mono ?_
  rintro e w1 ⟨N, D, lo, hi, rfl, hb⟩
  have HE := Lib.hid (ext_trans HE.out hb)
  have By := Lib.hid (By.out.next hb)
  have F := Lib.hid (B2.new w1 N D 25)
  have hb := ext1 w1 (.cells #[.int .i64 N, .int .i64 D] 25)
  have HE := Lib.hid (ext_trans HE.out hb)
  have By := Lib.hid (By.out.next hb)
  obtain ⟨p, q, k, HG1, HG2, HGK⟩ := gears N D lo hi
  clear hb
  go_wp2_with fail
  generalize w1.alloc (.cells #[.int .i64 N, .int .i64 D] 25) = W1 at *
  refine (HG1.out _).mono ?_
  rintro e w2 ⟨rfl, hb⟩
  have HE := Lib.hid (ext_trans HE.out hb)
  have By := Lib.hid (By.out.next hb)
  have F := Lib.hid (B2.next F.out hb)
  obtain ⟨f0, f1, _, _⟩ := F.out
  clear hb
  go_wp2_with fail
  refine (HG2.out _).mono ?_
  rintro e w3 ⟨rfl, hb⟩
  have HE := Lib.hid (ext_trans HE.out hb)
  have By := Lib.hid (By.out.next hb)
  have F := Lib.hid (B2.next F.out hb)
  clear hb f0 f1
  go_wp2_with fail
  refine (drawTwoGears_any A n c _ By.out).mono ?_
  rintro e w4 ⟨N2, D2, lo2, hi2, rfl, hb⟩
  have HE := Lib.hid (ext_trans HE.out hb)
  have By := Lib.hid (By.out.next hb)
  have F := Lib.hid (B2.next F.out hb)
  have G := Lib.hid (B2.new w4 N2 D2 25)
  have hb := ext1 w4 (.cells #[.int .i64 N2, .int .i64 D2] 25)
  have HE := Lib.hid (ext_trans HE.out hb)
  have By := Lib.hid (By.out.next hb)
  have F := Lib.hid (B2.next F.out hb)
  obtain ⟨xs, k2, HT1, HT2, hxl, HTK⟩ := twos N2 D2 lo2 hi2
  clear hb
  go_wp2_with fail
  generalize w4.alloc (.cells #[.int .i64 N2, .int .i64 D2] 25) = W4 at *
  refine (HT1.out _).mono ?_
  rintro e w5 ⟨A1, c1, rfl, hw1, hb⟩
  have HE := Lib.hid (ext_trans HE.out hb)
  have By := Lib.hid (By.out.next hb)
  have F := Lib.hid (B2.next F.out hb)
  have G := Lib.hid (B2.next G.out hb)
  have D1 := Lib.hid hw1.rd
  obtain ⟨g0, g1, _, _⟩ := G.out
  clear hb hw1
  go_wp2_with fail
  refine (HT2.out _).mono ?_
  rintro e w6 ⟨A2, c2, rfl, hw1, hb⟩
  have HE := Lib.hid (ext_trans HE.out hb)
  have By := Lib.hid (By.out.next hb)
  have F := Lib.hid (B2.next F.out hb)
  have G := Lib.hid (B2.next G.out hb)
  have D1 := Lib.hid (rd_next D1.out hb)
  have D2' := Lib.hid hw1.rd
  clear hb hw1 g0 g1
  go_wp2_with fail
  refine (drawGearError_any A n c _ By.out).mono ?_
  rintro e w7 ⟨N3, D3, a3, b3, rfl, hb⟩
  have HE := Lib.hid (ext_trans HE.out hb)
  have By := Lib.hid (By.out.next hb)
  have F := Lib.hid (B2.next F.out hb)
  have G := Lib.hid (B2.next G.out hb)
  have D1 := Lib.hid (rd_next D1.out hb)
  have D2' := Lib.hid (rd_next D2'.out hb)
  have E := Lib.hid (B2.new w7 N3 D3 25)
  have hb := ext1 w7 (.cells #[.int .i64 N3, .int .i64 D3] 25)
  have HE := Lib.hid (ext_trans HE.out hb)
  have By := Lib.hid (By.out.next hb)
  have F := Lib.hid (B2.next F.out hb)
  have G := Lib.hid (B2.next G.out hb)
  have D1 := Lib.hid (rd_next D1.out hb)
  have D2' := Lib.hid (rd_next D2'.out hb)
  obtain ⟨en, ed, k3, HR1, HR2⟩ := errs N3 D3 a3 b3
  clear hb
  go_wp2_with fail
  generalize w7.alloc (.cells #[.int .i64 N3, .int .i64 D3] 25) = W7 at *
  refine (HR1.out _).mono ?_
  rintro e w8 ⟨rfl, hb⟩
  have HE := Lib.hid (ext_trans HE.out hb)
  have By := Lib.hid (By.out.next hb)
  have F := Lib.hid (B2.next F.out hb)
  have G := Lib.hid (B2.next G.out hb)
  have E := Lib.hid (B2.next E.out hb)
  have D1 := Lib.hid (rd_next D1.out hb)
  have D2' := Lib.hid (rd_next D2'.out hb)
  have M1 := Lib.hid (B2.new w8 en ed 25)
  have hb := ext1 w8 (.cells #[.int .i64 en, .int .i64 ed] 25)
  have HE := Lib.hid (ext_trans HE.out hb)
  have By := Lib.hid (By.out.next hb)
  have F := Lib.hid (B2.next F.out hb)
  have G := Lib.hid (B2.next G.out hb)
  have E := Lib.hid (B2.next E.out hb)
  have D1 := Lib.hid (rd_next D1.out hb)
  have D2' := Lib.hid (rd_next D2'.out hb)
  obtain ⟨e0, e1, _, _⟩ := E.out
  clear hb
  go_wp2_with fail
  generalize w8.alloc (.cells #[.int .i64 en, .int .i64 ed] 25) = W8 at *
  refine (HR2.out _).mono ?_
  rintro e w9 ⟨rfl, hb⟩
  have HE := Lib.hid (ext_trans HE.out hb)
  have By := Lib.hid (By.out.next hb)
  have F := Lib.hid (B2.next F.out hb)
  have G := Lib.hid (B2.next G.out hb)
  have M1 := Lib.hid (B2.next M1.out hb)
  have D1 := Lib.hid (rd_next D1.out hb)
  have D2' := Lib.hid (rd_next D2'.out hb)
  have M2 := Lib.hid (B2.new w9 en ed 25)
  have hb := ext1 w9 (.cells #[.int .i64 en, .int .i64 ed] 25)
  have HE := Lib.hid (ext_trans HE.out hb)
  have By := Lib.hid (By.out.next hb)
  have F := Lib.hid (B2.next F.out hb)
  have G := Lib.hid (B2.next G.out hb)
  have M1 := Lib.hid (B2.next M1.out hb)
  have D1 := Lib.hid (rd_next D1.out hb)
  have D2' := Lib.hid (rd_next D2'.out hb)
  clear hb e0 e1 E
  go_wp2_with fail
  generalize w9.alloc (.cells #[.int .i64 en, .int .i64 ed] 25) = W9 at *
  refine (f6same _ _ _ _ xs _ D1.out D2'.out hxl).mono ?_
  rintro e w10 ⟨rfl, hb⟩
  have HE := Lib.hid (ext_trans HE.out hb)
  have By := Lib.hid (By.out.next hb)
  have F := Lib.hid (B2.next F.out hb)
  have G := Lib.hid (B2.next G.out hb)
  have M1 := Lib.hid (B2.next M1.out hb)
  have M2 := Lib.hid (B2.next M2.out hb)
  have D2' := Lib.hid (rd_next D2'.out hb)
  clear hb D1 By HG1 HG2 HT1 HT2 HR1 HR2 hf6
  obtain ⟨m0, m1, _, _⟩ := M1.out
  obtain ⟨n0, n1, _, _⟩ := M2.out
  obtain ⟨g0, g1, _, _⟩ := G.out
  go_wp2_with fail
  clear m0 m1 n0 n1 M1 M2 q1 q2
  have F0 := Lib.hid F.out.1
  have F1 := Lib.hid F.out.2.1
  by_cases e2 : k2 = 0
  · obtain ⟨⟨a, b, c', d, rfl, heq, ⟨a1, a2⟩, ⟨b1, b2⟩, ⟨c1', c2'⟩, ⟨d1, d2⟩⟩, ⟨n1, n2, dd1, dd2⟩⟩ := HTK.out e2
    obtain ⟨bb, off, rfl, hbb, hc⟩ := D2'.out (by simp)
    have x0 : w10.cell? ⟨bb, off, none⟩ = some (.int .i64 a) := hc 0 _ rfl
    have x1 : w10.cell? ⟨bb, off + 1, none⟩ = some (.int .i64 b) := hc 1 _ rfl
    have x2 : w10.cell? ⟨bb, off + 2, none⟩ = some (.int .i64 c') := hc 2 _ rfl
    have x3 : w10.cell? ⟨bb, off + 3, none⟩ = some (.int .i64 d) := hc 3 _ rfl
    have e2' : (k2 == 0) = true := by simpa using e2
    have hq : (a * c' * D2 != b * d * N2) = false := by rw [heq]; simp
    obtain ⟨p1, p2⟩ := mul_rngD (x := a) (y := c') (M := 1000) (K := 1000) (by omega) (by omega) (by omega) (by omega)
    obtain ⟨p3, p4⟩ := mul_rngD (x := b) (y := d) (M := 1000) (K := 1000) (by omega) (by omega) (by omega) (by omega)
    obtain ⟨p5, p6⟩ := mul_rngD (x := a * c') (y := D2) (M := 1000 * 1000) (K := 1000000) (by omega) (by omega) (by omega) (by omega)
    obtain ⟨p7, p8⟩ := mul_rngD (x := b * d) (y := N2) (M := 1000 * 1000) (K := 1000000) (by omega) (by omega) (by omega) (by omega)
    have v1 : IntKind.i64.wrap (a * c') = a * c' := IntWalk.i64_in _ (by omega)
    have v2 : IntKind.i64.wrap (b * d) = b * d := IntWalk.i64_in _ (by omega)
    have v3 : IntKind.i64.wrap (a * c' * D2) = a * c' * D2 := IntWalk.i64_in _ (by omega)
    have v4 : IntKind.i64.wrap (b * d * N2) = b * d * N2 := IntWalk.i64_in _ (by omega)
    clear hc heq e2 D2' HTK hxl
    go_quiet (fail)
    clear v1 v2 v3 v4 p1 p2 p3 p4 p5 p6 p7 p8 x0 x1 x2 x3 g0 g1 hq n1 n2 dd1 dd2
    have y0 := F0.out
    have y1 := F1.out
    by_cases e1 : k = 0
    · obtain ⟨⟨l1, l2, l3⟩, ⟨n1, n2, dd1, dd2⟩, ⟨p1, p2, q1, q2⟩, hbest⟩ := HGK.out e1
      have HB := Lib.hid hbest
      have e1' : (k != 0) = false := by simpa using e1
      obtain ⟨m1, m2⟩ := mul_rngD (x := N) (y := q) (M := 1000000) (K := 1000) (by omega) (by omega) (by omega) (by omega)
      obtain ⟨m3, m4⟩ := mul_rngD (x := p) (y := D) (M := 1000) (K := 1000000) (by omega) (by omega) (by omega) (by omega)
      obtain ⟨m, hm⟩ : ∃ m, N * q - p * D = m := ⟨_, rfl⟩
      obtain ⟨mb1, mb2⟩ : -1000000000 ≤ m ∧ m ≤ 1000000000 := by omega
      have HM := Lib.hid hm
      clear hbest e1
      go_wp2_with fail
      clear hm m1 m2 m3 m4
      go_loop [27] (fun t => ∃ y : Int, t = .int .i64 y ∧ lo ≤ y ∧ y ≤ hi + 1) (fun t => (hi + 1 - intOf t).toNat)
      case atStart => exact ⟨lo, rfl, by omega, by omega⟩
      case round =>
        obtain ⟨y, rfl, h1, h2⟩ := hrel
        by_cases h4 : y ≤ hi
        · by_cases h5 : y < lo + 40
          · have hb2 := HB.out y h1 h4
            unfold errV gL at hb2
            rw [HM.out] at hb2
            obtain ⟨m5, m6⟩ := mul_rngD (x := N) (y := y) (M := 1000000) (K := 1000) (by omega) (by omega) (by omega) (by omega)
            obtain ⟨Z, hZ⟩ : ∃ Z, N * y = Z := ⟨_, rfl⟩
            rw [hZ] at hb2 m5 m6
            have m7 : 0 ≤ Z / D := Int.ediv_nonneg (by omega) (by omega)
            have m8 : Z / D ≤ Z := Int.ediv_le_self _ (by omega)
            have m9 : Z.tdiv D = Z / D := Int.tdiv_eq_ediv_of_nonneg (by omega)
            obtain ⟨Q, hQ⟩ : ∃ Q, Z / D = Q := ⟨_, rfl⟩
            rw [hQ] at hb2 m7 m8 m9
            obtain ⟨mn, hmn⟩ : ∃ mn, (if Q < hi then Q else hi) = mn := ⟨_, rfl⟩
            obtain ⟨x, hx⟩ : ∃ x, (if lo < mn then mn else lo) = x := ⟨_, rfl⟩
            have hxg : max lo (min hi Q) = x := by rw [← hx, ← hmn]; split <;> split <;> omega
            rw [hxg] at hb2
            obtain ⟨xb1, xb2⟩ : lo ≤ x ∧ x ≤ hi := by omega
            obtain ⟨Y, hY⟩ : ∃ Y, x * D = Y := ⟨_, rfl⟩
            obtain ⟨b1, b2⟩ := mul_rngD (x := x) (y := D) (M := 1000) (K := 1000000) (by omega) (by omega) (by omega) (by omega)
            rw [hY] at b1 b2 hb2
            obtain ⟨o, ho⟩ : ∃ o, Z - Y = o := ⟨_, rfl⟩
            rw [ho] at hb2
            obtain ⟨ob1, ob2⟩ : -1000000000 ≤ o ∧ o ≤ 1000000000 := by omega
            obtain ⟨oa, hoa⟩ : ∃ oa, (if o < -o then -o else o) = oa := ⟨_, rfl⟩
            obtain ⟨ma, hma⟩ : ∃ ma, (if m < -m then -m else m) = ma := ⟨_, rfl⟩
            have ea : (o.natAbs : Int) = oa := by rw [← hoa]; split <;> omega
            have em : (m.natAbs : Int) = ma := by rw [← hma]; split <;> omega
            rw [ea, em] at hb2
            obtain ⟨c1', c2', c3', c4'⟩ : 0 ≤ oa ∧ oa ≤ 1000000000 ∧ 0 ≤ ma ∧ ma ≤ 1000000000 := by omega
            obtain ⟨r1, r2⟩ := mul_rngD (x := oa) (y := q) (M := 1000000000) (K := 1000) (by omega) (by omega) (by omega) (by omega)
            obtain ⟨r3, r4⟩ := mul_rngD (x := ma) (y := y) (M := 1000000000) (K := 1000) (by omega) (by omega) (by omega) (by omega)
            obtain ⟨P, hP⟩ : ∃ P, oa * q = P := ⟨_, rfl⟩
            obtain ⟨R, hR⟩ : ∃ R, ma * y = R := ⟨_, rfl⟩
            rw [hP] at hb2 r1 r2
            rw [hR] at hb2 r3 r4
            clear ea em hxg
            go_wp2
            go_round
            case rel => exact ⟨y + 1, rfl, by omega, by omega⟩
            case measure => simp [intOf]; omega
          · go_wp2
            go_ret
            exact ⟨rfl, HE.out.trans ⟨rfl, rfl, rfl, Nat.le_refl _, fun _ _ => rfl⟩⟩
        · go_wp2
          go_ret
          exact ⟨rfl, HE.out.trans ⟨rfl, rfl, rfl, Nat.le_refl _, fun _ _ => rfl⟩⟩
    · have e1' : (k != 0) = true := by simpa using e1
      clear e1
      go_wp2
      go_ret
      exact ⟨rfl, HE.out.trans ⟨rfl, rfl, rfl, Nat.le_refl _, fun _ _ => rfl⟩⟩
  · have e2' : (k2 == 0) = false := by simpa using e2
    clear e2 D2' HTK
    go_quiet (fail)
    have y0 := F0.out
    have y1 := F1.out
    by_cases e1 : k = 0
    · obtain ⟨⟨l1, l2, l3⟩, ⟨n1, n2, dd1, dd2⟩, ⟨p1, p2, q1, q2⟩, hbest⟩ := HGK.out e1
      have HB := Lib.hid hbest
      have e1' : (k != 0) = false := by simpa using e1
      obtain ⟨m1, m2⟩ := mul_rngD (x := N) (y := q) (M := 1000000) (K := 1000) (by omega) (by omega) (by omega) (by omega)
      obtain ⟨m3, m4⟩ := mul_rngD (x := p) (y := D) (M := 1000) (K := 1000000) (by omega) (by omega) (by omega) (by omega)
      obtain ⟨m, hm⟩ : ∃ m, N * q - p * D = m := ⟨_, rfl⟩
      obtain ⟨mb1, mb2⟩ : -1000000000 ≤ m ∧ m ≤ 1000000000 := by omega
      have HM := Lib.hid hm
      clear hbest e1
      go_wp2_with fail
      clear hm m1 m2 m3 m4
      go_loop [27] (fun t => ∃ y : Int, t = .int .i64 y ∧ lo ≤ y ∧ y ≤ hi + 1) (fun t => (hi + 1 - intOf t).toNat)
      case atStart => exact ⟨lo, rfl, by omega, by omega⟩
      case round =>
        obtain ⟨y, rfl, h1, h2⟩ := hrel
        by_cases h4 : y ≤ hi
        · by_cases h5 : y < lo + 40
          · have hb2 := HB.out y h1 h4
            unfold errV gL at hb2
            rw [HM.out] at hb2
            obtain ⟨m5, m6⟩ := mul_rngD (x := N) (y := y) (M := 1000000) (K := 1000) (by omega) (by omega) (by omega) (by omega)
            obtain ⟨Z, hZ⟩ : ∃ Z, N * y = Z := ⟨_, rfl⟩
            rw [hZ] at hb2 m5 m6
            have m7 : 0 ≤ Z / D := Int.ediv_nonneg (by omega) (by omega)
            have m8 : Z / D ≤ Z := Int.ediv_le_self _ (by omega)
            have m9 : Z.tdiv D = Z / D := Int.tdiv_eq_ediv_of_nonneg (by omega)
            obtain ⟨Q, hQ⟩ : ∃ Q, Z / D = Q := ⟨_, rfl⟩
            rw [hQ] at hb2 m7 m8 m9
            obtain ⟨mn, hmn⟩ : ∃ mn, (if Q < hi then Q else hi) = mn := ⟨_, rfl⟩
            obtain ⟨x, hx⟩ : ∃ x, (if lo < mn then mn else lo) = x := ⟨_, rfl⟩
            have hxg : max lo (min hi Q) = x := by rw [← hx, ← hmn]; split <;> split <;> omega
            rw [hxg] at hb2
            obtain ⟨xb1, xb2⟩ : lo ≤ x ∧ x ≤ hi := by omega
            obtain ⟨Y, hY⟩ : ∃ Y, x * D = Y := ⟨_, rfl⟩
            obtain ⟨b1, b2⟩ := mul_rngD (x := x) (y := D) (M := 1000) (K := 1000000) (by omega) (by omega) (by omega) (by omega)
            rw [hY] at b1 b2 hb2
            obtain ⟨o, ho⟩ : ∃ o, Z - Y = o := ⟨_, rfl⟩
            rw [ho] at hb2
            obtain ⟨ob1, ob2⟩ : -1000000000 ≤ o ∧ o ≤ 1000000000 := by omega
            obtain ⟨oa, hoa⟩ : ∃ oa, (if o < -o then -o else o) = oa := ⟨_, rfl⟩
            obtain ⟨ma, hma⟩ : ∃ ma, (if m < -m then -m else m) = ma := ⟨_, rfl⟩
            have ea : (o.natAbs : Int) = oa := by rw [← hoa]; split <;> omega
            have em : (m.natAbs : Int) = ma := by rw [← hma]; split <;> omega
            rw [ea, em] at hb2
            obtain ⟨c1', c2', c3', c4'⟩ : 0 ≤ oa ∧ oa ≤ 1000000000 ∧ 0 ≤ ma ∧ ma ≤ 1000000000 := by omega
            obtain ⟨r1, r2⟩ := mul_rngD (x := oa) (y := q) (M := 1000000000) (K := 1000) (by omega) (by omega) (by omega) (by omega)
            obtain ⟨r3, r4⟩ := mul_rngD (x := ma) (y := y) (M := 1000000000) (K := 1000) (by omega) (by omega) (by omega) (by omega)
            obtain ⟨P, hP⟩ : ∃ P, oa * q = P := ⟨_, rfl⟩
            obtain ⟨R, hR⟩ : ∃ R, ma * y = R := ⟨_, rfl⟩
            rw [hP] at hb2 r1 r2
            rw [hR] at hb2 r3 r4
            clear ea em hxg
            go_wp2
            go_round
            case rel => exact ⟨y + 1, rfl, by omega, by omega⟩
            case measure => simp [intOf]; omega
          · go_wp2
            go_ret
            exact ⟨rfl, HE.out.trans ⟨rfl, rfl, rfl, Nat.le_refl _, fun _ _ => rfl⟩⟩
        · go_wp2
          go_ret
          exact ⟨rfl, HE.out.trans ⟨rfl, rfl, rfl, Nat.le_refl _, fun _ _ => rfl⟩⟩
    · have e1' : (k != 0) = true := by simpa using e1
      clear e1
      go_wp2
      go_ret
      exact ⟨rfl, HE.out.trans ⟨rfl, rfl, rfl, Nat.le_refl _, fun _ _ => rfl⟩⟩
set_option maxRecDepth 100000 in
theorem walk (A : Option Addr) (l c : Nat) (z : List Int) (w : World) (hx : IsRow .u8 w A l c z) :
    Calls Try.prog 3 #[.slice A l c] w fun e w' => e = .returned (.bool true) ∧ Below w.heap.size w w' := by
  by_cases h : l ≤ 4096
  · exact walkG A l c w (hx.bytes (by omega)) h
  · have hf : 4096 < (l : Int) := by omega
    have hf6 : Hid (∀ W, Calls Try.prog 13 #[.slice A l c] W fun e w' => e = .returned (.bool true) ∧ W = w') := fun W => by
      have h := f6big_any A l c W
      rwa [decide_eq_true hf] at h
    clear hx hf h
    go_enter Try.func3, Try.ntmps3
    go_wp2_with fail
    refine (hf6.out _).mono ?_
    rintro e w' ⟨rfl, rfl⟩
    go_wp2
    go_ret
    exact ⟨rfl, Below.refl _ _⟩

theorem own : ownKnob Try.prog.godebug = none := by kernel_rfl
theorem laidOut : laidOutB Try.prog = true := by kernel_rfl
set_option linter.unusedVariables false in
set_option maxRecDepth 100000 in
theorem lifted (os : Os) (started : os.Started) (H : Type) (enc : TypeId × Value → H) :
    ReturnsInHanded {} Try.checked os 3 .any (Rows.fnGearsSpec.pre6 enc Try.prog Try.f3 Rows.fnGearsRow.domain false) (Rows.fnGearsSpec.post enc Try.prog Try.f3 false true false false) := by
  refine returnsInHanded_of_change (C := Try.checked) own started (by kernel_rfl) Try.func3
    (ChangeSpec.witness6 (enc := enc) (C := Try.checked) false ⟨#[], #[.slice none 0 0], []⟩ 8 (by kernel_rfl) (by kernel_rfl) (by kernel_rfl) (by kernel_rfl)) ?_
  intro W base args ds gs before hval0 hW hcnd _
  have hval : ∀ (j : Nat) t v, Try.f3.params[j]? = some t → args[j]? = some v → Value.okWide Try.prog W .any base t v := hval0
  have hW' := hW
  obtain ⟨p, q, hA0, hV, rfl, hfz, hnd⟩ := hW
  have hA : DataW.TrodAll enc Try.prog W 0 (fun _ => true) true Try.f3.params.toList args.toList ds p := hA0
  rw [Try.params3] at hA hval
  obtain ⟨v0, vs0, d0, ds0, p0, q0, hargs, rfl, rfl, h0, r0⟩ := trodAll_cons hA
  obtain ⟨rfl, rfl, rfl⟩ := trodAll_nil r0
  obtain rfl : args = #[v0] := by cases args; simp_all
  obtain ⟨rfl, rfl⟩ := trodVars_none hV
  have k0 := h0
  have lt0 : ∀ x ∈ p0, x.block < W.heap.size := by obtain ⟨m, hm⟩ := k0; exact DataW.trod_lt m _ _ _ hm
  obtain ⟨A0, l0, c0, rfl⟩ := okWide_slice Try.underlying22 (hval 0 22 v0 rfl rfl)
  obtain ⟨z0, w0⟩ : ∃ zs, IsRow .u8 W A0 l0 c0 zs := isRow_arg Try.underlying22 Try.underlying5 (by kernel_rfl) h0
  clear hA0 hval0
  refine (walk A0 l0 c0 z0 W w0).mono fun e W' ⟨he, bel⟩ => ?_
  subst he
  exact ⟨_, rfl, _, _, _, [], _, [], hW', trodAll_mk1 (shut_bool Try.underlying4 _), (trodAll_cons_mk (Below.trod laidOut (by kernel_rfl) (of_decide_eq_true (by kernel_rfl)) k0 bel lt0) trodAll_mk0), rfl, bel.frame _, fun h => by cases h⟩

theorem jPlace : (Rows.fnGearsRow.inPlace == Try.prog.inPlace 3) = true := by kernel_rfl
theorem jFollow : (Rows.fnGearsRow.unfollowed == Try.prog.unfollowed 3) = true := by kernel_rfl
theorem jRecurse : (Rows.fnGearsRow.recurses == Try.prog.recurses 3) = true := by kernel_rfl
theorem jNamed : (Rows.fnGearsRow.named == Try.prog.varsNamed 3) = true := by kernel_rfl
theorem joined : joinedFacts Try.prog 3 Try.f3 Rows.fnGearsSpec Rows.fnGearsRow = true :=
  joined_of (by kernel_rfl) (by kernel_rfl) (by kernel_rfl) (by kernel_rfl) (by kernel_rfl) jPlace jFollow jRecurse jNamed (by kernel_rfl) (by kernel_rfl) (by kernel_rfl) (by kernel_rfl) (by kernel_rfl) (by kernel_rfl) (by kernel_rfl) (by kernel_rfl) (by kernel_rfl) rfl rfl rfl rfl rfl rfl (by kernel_rfl) (by kernel_rfl) (by kernel_rfl)
theorem over : Rows.fnGearsRow.holds Try.pinned (OpenSpec.ofChange Rows.fnGearsSpec) :=
  OpenClaim.holds_of_wide 3 Try.f3 rfl rfl rfl rfl rfl rfl rfl ⟨rfl, rfl, rfl, rfl, rfl⟩ rfl rfl rfl rfl rfl (by kernel_rfl) Try.func3 joined
    (of_decide_eq_true (by kernel_rfl)) (by unfold Func.isWrapper; first | (rw [if_pos (by decide +kernel)]; kernel_rfl) | (rw [if_neg (by decide +kernel)]; exact ⟨rfl, rfl⟩))
    (fun os started H enc _ => lifted os started H enc)

theorem proved : Rows.FnGearsSaid := over
#print axioms proved
end Go.Proofs.Ytgnifhegkjmgaaa.fnGears
