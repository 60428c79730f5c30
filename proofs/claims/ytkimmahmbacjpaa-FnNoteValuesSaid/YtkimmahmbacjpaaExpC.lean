/- The terms of a fraction, with the room of their row. No condition but those that each theorem names. -/
import Derived.Test.YtkimmahmbacjpaaExpW
import Derived.Test.YtkimmahmbacjpaaCloneW
import Derived.Test.YtkimmahmbacjpaaBoxW
namespace Go.Proofs.Ytkimmahmbacjpaa
open Go.RowKit Go.Sort

theorem own_capR {W : World} {base n m c : Nat} {A : Option Addr} {e : TypeId} {s : Nat} {xs : List Value} (h : W.ownsRow base e s (.slice A m c) n xs) : n ≤ c ∧ c ≤ maxLen := by
  rcases h.2 with ⟨h1, h0⟩ | ⟨g, cap, cur, h1, _, _, hc, hm, _⟩
  · injection h1 with _ _ h1
    subst h1
    exact ⟨by omega, by unfold maxLen; omega⟩
  · injection h1 with _ _ h1
    subst h1
    exact ⟨hc, hm⟩
set_option maxHeartbeats 2000000 in
theorem expand_cap (n d : Int) (w : World) (n1 : -1000000000 ≤ n) (n2 : n ≤ 1000000000) (d1 : 1 ≤ d) (d2 : d ≤ 1000000000) :
    Calls Try.prog 48 #[.int .i64 n, .int .i64 d] w (RetCap w (termsOf n d)) := by
  obtain ⟨i0, hi, hz0, hz1, hz2⟩ := info_parts info64
  have HI := Lib.hid hi
  obtain ⟨R, hR⟩ : ∃ R, termsOf n d = R := ⟨_, rfl⟩
  rw [hR]
  have HR : Hid (expT d.toNat n d = R) := hR
  clear hR
  (try unfold fracV)
  go_enter Try.func48, Try.ntmps48
  go_wp2_with fail
  go_loopw [0, 1, 5] (fun s t v wr => ∃ (k : Nat) (m e : Int) (out : List Int), s = .int .i64 m ∧ t = .int .i64 e ∧ -1000000000 ≤ m ∧ m ≤ 1000000000 ∧ 0 ≤ e ∧ e ≤ 1000000000 ∧ e ≤ k ∧ out.length + e ≤ 1000000000 ∧ Hid (out ++ expT k m e = R) ∧ OutI w (w.heap.size) out v wr) (fun _ t _ _ => (intOf t).toNat)
  case atStart =>
    have HR' := HR.out
    subst HR'
    exact ⟨d.toNat, n, d, [], rfl, rfl, by omega, by omega, by omega, by omega, by omega, (by simp; exact d2), rfl, own_nil, Below.refl _ _, Nat.le_refl _⟩
  case round =>
    obtain ⟨k, m, e, out, rfl, rfl, m1, m2, e1, e2, hek, hol, HO, HV⟩ := hrel
    clear HR
    have HVV := Lib.hid HV
    clear HV
    by_cases h0 : e = 0
    · have t0 : (e != 0) = false := by simpa using h0
      have HE : Hid (R = out) := by
        have h := HO.out
        rw [h0, expT_zero, List.append_nil] at h
        exact h.symm
      clear h0
      go_wp2
      go_ret
      rw [HE.out]
      obtain ⟨hown, hbel, hsz⟩ := HVV.out
      obtain ⟨hn, A, c, rfl, hw⟩ := Wr.of_own hown
      exact ⟨A, c, rfl, hw.more (by omega), (own_capR hown), hbel⟩
    · have t0 : (e != 0) = true := by simpa using h0
      obtain ⟨j, hj, g1, g2, g3, hst⟩ := expT_step (n := m) (show 1 ≤ e by omega) hek
      obtain ⟨q1, q2⟩ := ediv_rng (n := m) (d := e) (by omega) m1 m2
      have hme := Int.mul_ediv_add_emod m e
      have hcm : e * (m / e) = m / e * e := Int.mul_comm _ _
      have HN : Hid ((out ++ [m / e]) ++ expT j e (m % e) = R) := by
        have h := HO.out
        rw [hst] at h
        unfold Hid
        rw [List.append_assoc]
        exact h
      generalize hq : m / e = q at *
      generalize hr : m % e = r at *
      have hqe : q * e = m - r := by omega
      have hqe1 : -3000000000 ≤ q * e ∧ q * e ≤ 3000000000 := by omega
      obtain ⟨p1, p2⟩ := hqe1
      have HQ := Lib.hid hqe
      have HC : Hid (∀ W, Calls Try.prog 85 #[.int .i64 m, .int .i64 e] W fun x w' => x = .returned (.int .i64 q) ∧ W = w') := fun W => by
        have h : Calls Try.prog 85 #[.int .i64 m, .int .i64 e] W fun x w' => x = .returned (.int .i64 (m / e)) ∧ W = w' := floorDiv_any _ _ _ (by omega) (by omega) (by omega) (by omega)
        rwa [hq] at h
      clear hst hme hcm hq hr hqe h0 HO
      go_wp2_with fail
      refine (HC.out _).mono ?_
      rintro x w' ⟨rfl, rfl⟩
      have hown := HVV.out.1
      have hbz := HVV.out.2.2
      go_wp2_with (at_builtin; refine wpList_append_own _ rfl _ _ 32 rfl (w.heap.size) 2 i0 (.int .i64 0) 1 8 Try.underlying32 HI.out hz0 hz1 hz2 rfl (by decide) _ _ _ rfl (hown.alloc _) ⟨wr.heap.size, 0, none⟩ 1 1 [.int .i64 q] rfl rfl ?c1 ?c2 ?c3 ?c4 ?c5 ?_)
      case c1 => exact cell_one_new _ _ _
      case c2 => simp [Value.oneCell']
      case c3 => unfold maxLen; omega
      case c4 => omega
      case c5 => simp; omega
      intro v' w3 hown3 hgrow _
      have HV3 := OutI.push HVV.out (by omega) _ _ hown3 hgrow
      clear hown3 hgrow hown
      go_wp2
      go_roundw
      case rel => exact ⟨j, e, r, out ++ [q], rfl, val_int (by have := HQ.out; omega), by omega, by omega, by omega, by omega, g1, by simp; omega, HN.out, HV3⟩
      case measure => have := HQ.out; simp [intOf]; omega
/-- The terms of a fraction that is sound. -/
theorem iExpand_some (n d : Int) (w : World) (h : fracOk n d = true) :
    Calls Try.prog 18 #[fracV n d] w (fun e w' => ∃ A c, e = .returned (.tuple #[.slice A (termsOf n d).length c, .int .i64 0]) ∧ Wr (Value.int .i64) w' w.heap.size A (termsOf n d) ∧ ((termsOf n d).length ≤ c ∧ c ≤ maxLen) ∧ Below w.heap.size w w') := by
  obtain ⟨h1, h2, h3, h4, _⟩ := fracOk_true.1 h
  have HV : Hid (∀ W, Calls Try.prog 47 #[fracV n d] W fun e w' => e = .returned (.bool true) ∧ Below W.heap.size W w') := fun W => by
    have := ValidFraction_any n d W
    rwa [h] at this
  have HX : Hid (∀ W, Calls Try.prog 48 #[.int .i64 n, .int .i64 d] W (RetCap W (termsOf n d))) := fun W => expand_cap n d W h3 h4 h1 h2
  unfold RetCap at HX
  generalize termsOf n d = L at *
  clear h h1 h2 h3 h4
  unfold fracV at *
  go_enter Try.func18, Try.ntmps18
  have HB := Lib.hid (BoxV.new w #[.int .i64 n, .int .i64 d] 31)
  have HE := Lib.hid (ext1 w (.cells #[.int .i64 n, .int .i64 d] 31))
  have a0 := HB.out.at 0 _ rfl
  have a1 := HB.out.at 1 _ rfl
  go_wp2_with fail
  refine (HV.out _).mono ?_
  rintro e w1 ⟨rfl, hb1⟩
  have HB := Lib.hid (HB.out.next hb1)
  have HE := Lib.hid (ext_trans HE.out hb1)
  clear a0 a1 hb1
  have a0 := HB.out.at 0 _ rfl
  have a1 := HB.out.at 1 _ rfl
  go_wp2_with fail
  refine (HX.out _).mono ?_
  rintro e w2 ⟨A, c, rfl, hw, hc, hb2⟩
  have HB0 := HE.out.size
  have hw := hw.more HB0
  have hb := ext_trans HE.out hb2
  go_wp2
  go_ret2
  exact ⟨A, c, rfl, hw, hc, hb⟩
end Go.Proofs.Ytkimmahmbacjpaa
