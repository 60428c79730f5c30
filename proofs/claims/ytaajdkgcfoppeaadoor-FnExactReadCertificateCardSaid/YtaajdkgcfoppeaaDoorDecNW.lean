/- Numbers in decimal: both walks. No condition but those that each theorem names. -/
import Derived.Test.YtaajdkgcfoppeaaDoorDecNP
import Derived.Test.YtaajdkgcfoppeaaDoorShelf
import Derived.Test.YtaajdkgcfoppeaaDoorKeepA
import Derived.Lib.AppendIntMem
namespace Go.Proofs.YtaajdkgcfoppeaaDoor
open Go.RowKit Go.Sort

/-- The table of the powers of ten lies in memory. -/
def Tab10 (w : World) : Prop := Lib.TabIs Tryd.prog w "internal/strconv.uint64pow10" .u64 Lib.pow10Tab
theorem Tab10.next {w W : World} (h : Tab10 w) (hb : Below w.heap.size w W) : Tab10 W := Lib.tabBelow_of_tabIs h W hb
theorem iDecimal_any (n : Int) (w : World) (n1 : -9223372036854775808 ≤ n) (n2 : n ≤ 9223372036854775807) (h : Tab10 w) :
    Calls Tryd.prog 27 #[.int .i64 n] w fun e w' => e = .returned (.string (decB n)) ∧ Below w.heap.size w w' := by
  have HF : Hid (Calls Tryd.prog 38 #[.int .i64 n, .int .i64 10] w fun e w' => e = .returned (.string (decB n)) ∧ Below w.heap.size w w') := by
    refine (Tryd.strconv_FormatInt_10 n n1 n2 w h).mono ?_
    rintro e w' ⟨rfl, k, os, rfl⟩
    exact ⟨rfl, Lib.below_grow _ w (Nat.le_refl _) k os⟩
  generalize decB n = d at *
  clear h n1 n2
  go_enter Tryd.func27, Tryd.ntmps27
  go_wp2_with fail
  refine HF.out.mono ?_
  rintro e w1 ⟨rfl, hb⟩
  go_wp2
  go_ret
  exact ⟨rfl, hb⟩
theorem tm_eqs (k : Int) (h1 : -9223372036854775808 ≤ k) (h2 : k ≤ 9223372036854775807) : ∃ D K : Int, k.tmod 10 = D ∧ k.tdiv 10 = K ∧ (D.natAbs = k.natAbs % 10) ∧ K.natAbs = k.natAbs / 10 ∧ -9 ≤ D ∧ D ≤ 9 ∧ -922337203685477580 ≤ K ∧ K ≤ 922337203685477580 := by
  refine ⟨_, _, rfl, rfl, by rw [Int.natAbs_tmod]; rfl, by rw [Int.natAbs_tdiv]; rfl, ?_, ?_, ?_, ?_⟩
  all_goals
    have e1 : (k.tmod 10).natAbs = k.natAbs % 10 := by rw [Int.natAbs_tmod]; rfl
    have e2 : (k.tdiv 10).natAbs = k.natAbs / 10 := by rw [Int.natAbs_tdiv]; rfl
    omega
set_option maxRecDepth 100000 in
set_option maxHeartbeats 4000000 in
theorem l01Dec_any (n : Int) (w : World) (n1 : -9223372036854775808 ≤ n) (n2 : n ≤ 9223372036854775807) :
    Calls Tryd.prog 22 #[.int .i64 n] w fun e w' => e = .returned (.string (decB n)) ∧ Below w.heap.size w w' := by
  obtain ⟨ti, hi, hz0, hz1, hz2⟩ := info_parts info8
  have HI := Lib.hid hi
  have hlen := dg0_len 20 n.natAbs (by have : (10 : Nat) ^ 20 = 100000000000000000000 := by decide
                                       omega)
  have HBY := Lib.hid (dg0_byte n.natAbs n.natAbs (Nat.le_refl _))
  have H0 : Hid (n ≠ 0 → 0 < (dg0 n.natAbs).length) := fun h => dg0_ne (by omega)
  have HZ : Hid (n = 0 → dg0 n.natAbs = []) := fun h => by rw [h]; exact dg0_zero
  have HD : Hid ((n = 0 → decB n = ⟨#[48]⟩) ∧ (0 < n → decB n = byS (dg0 n.natAbs)) ∧ (n < 0 → decB n = ⟨#[45]⟩ ++ byS (dg0 n.natAbs))) := ⟨fun h => by rw [h]; exact decB_zero, decB_pos, decB_neg⟩
  obtain ⟨R, hR⟩ : ∃ R, dg0 n.natAbs = R := ⟨_, rfl⟩
  rw [hR] at hlen HBY H0 HZ HD
  have HR := Lib.hid hR
  have O : Hid (OutB w w.heap.size [] (.slice (some ⟨w.heap.size, 0, none⟩) 0 0) (w.alloc (.cells #[] 5))) := by
    refine ⟨?_, ext1 _ _, by simp⟩
    have h := World.ownsRow_lit (base := w.heap.size) (e := 5) (size := 1) w #[] 0 (Nat.le_refl _) (by unfold maxLen; omega) rfl
    simpa using h
  generalize decB n = d at *
  clear hi hR
  go_enter Tryd.func22, Tryd.ntmps22
  go_wp2_with fail
  go_loopw [3, 4, 5] (fun v t u wr => ∃ (k : Int) (out : List Int) (g c : Nat), t = .int .i64 k ∧ v = .slice (some ⟨g, 0, none⟩) out.length c ∧ -9223372036854775808 ≤ k ∧ k ≤ 9223372036854775807 ∧ Hid (dg0 k.natAbs ++ out = R) ∧ Hid (OutB w w.heap.size out v wr)) (fun _ t _ _ => (intOf t).natAbs)
  case atStart => exact ⟨n, [], w.heap.size, 0, rfl, rfl, n1, n2, by unfold Hid; rw [List.append_nil]; exact HR.out, O.out⟩
  case round =>
    obtain ⟨k, out, g, c, rfl, rfl, k1, k2, HK, HO⟩ := hrel
    clear O
    by_cases hk : k = 0
    · have hRe : Hid (R = out) := by
        have h := HK.out
        rw [hk, show (0 : Int).natAbs = 0 from rfl, dg0_zero, List.nil_append] at h
        exact h.symm
      have hH := HO.out
      rw [← hRe.out] at hH
      have HO2 := Lib.hid hH
      have hlr : R.length = out.length := by rw [hRe.out]
      have HLR := Lib.hid hlr
      rw [← HLR.out]
      clear hH HO HK
      by_cases hn : n = 0
      · have e0 : R = [] := HZ.out hn
        have e1 : d = ⟨#[48]⟩ := HD.out.1 hn
        subst e0 e1
        have HB2 := Lib.hid HO2.out.2.1
        clear HD HZ H0 HBY hRe hlr HLR HO2
        simp only [List.length_nil]
        go_wp2
        go_ret
        exact ⟨rfl, HB2.out⟩
      · have hp := H0.out hn
        have hp1 : ((R.length : Int) == 0) = false := by rw [beq_eq_false_iff_ne]; omega
        have HB2 := Lib.hid HO2.out.2.1
        obtain ⟨_, A2, c2, e2, hw⟩ := Wr.of_own HO2.out.1
        injection e2 with e3 e4 e5
        subst e3
        have hcv := conv_bytes (c := c2) hw.rd HBY.out hp
        have hzs : (byS R).size ≤ 20 := by rw [byS_size]; exact hlen
        rcases Int.lt_or_gt_of_ne hn with h | h
        · have e1 := HD.out.2.2 h
          generalize byS R = Z at *
          have HE := Lib.hid e1
          clear HD HZ H0 HBY hRe hlr HLR HO2 hw hp
          go_wp2
          go_ret
          exact ⟨rfl, HB2.out⟩
        · have e1 := HD.out.2.1 h
          have hn2 : ¬ n < 0 := by omega
          generalize byS R = Z at *
          have HE := Lib.hid e1
          clear HD HZ H0 HBY hRe hlr HLR HO2 hw hp
          go_wp2
          go_ret
          exact ⟨rfl, HB2.out⟩
    · obtain ⟨D, K, hD1, hK1, d1, q1, d2, d3, q2, q3⟩ := tm_eqs k k1 k2
      obtain ⟨m, hm⟩ : ∃ m : Nat, k.natAbs % 10 = m := ⟨_, rfl⟩
      have hm9 : m ≤ 9 := by omega
      have HKK : Hid (dg0 K.natAbs ++ ((48 + (m : Int)) :: out) = R) := by
        have h := HK.out
        rw [dg0_pos (by omega), hm, List.append_assoc] at h
        unfold Hid
        rw [q1]
        exact h
      have hlo : out.length + 1 ≤ 20 := by
        have h := congrArg List.length HKK.out
        rw [List.length_append, List.length_cons] at h
        omega
      have hkK : K.natAbs < k.natAbs := by omega
      have HKL := Lib.hid hkK
      have v1 : IntKind.i64.wrap (48 + (m : Int)) = 48 + (m : Int) := IntWalk.i64_in _ (by omega)
      have v2 : IntKind.u8.wrap (48 + (m : Int)) = 48 + (m : Int) := by simp [IntKind.wrap, IntKind.bits, IntKind.signed]; omega
      have HRD : Hid (∀ j u, (out.map (Value.int .u8))[j]? = some u → (wr.alloc (.cells #[.int .u8 (48 + (m : Int))] 5)).cell? ((⟨g, 0, none⟩ : Addr).add j) = some u) := fun j u hu => by
        have hh := own_below HO.out.1 (ext1 wr (.cells #[.int .u8 (48 + (m : Int))] 5))
        exact hh.cells (g := g) rfl j u hu
      have hownL : World.ownsRow (wr.alloc (.cells #[.int .u8 (48 + (m : Int))] 5)) w.heap.size 5 1 (.slice (some ⟨wr.heap.size, 0, none⟩) 1 1) 1 [.int .u8 (48 + (m : Int))] := by
        have h := World.ownsRow_lit (base := w.heap.size) (e := 5) (size := 1) wr #[.int .u8 (48 + (m : Int))] 1 HO.out.2.2 (by unfold maxLen; omega) rfl
        simpa using h
      have HBE : Hid (Below w.heap.size w (wr.alloc (.cells #[.int .u8 (48 + (m : Int))] 5))) := ext_alloc HO.out.2.1 _
      have hbz := HO.out.2.2
      have HOWN := Lib.hid hownL
      have kne : (k != 0) = true := by simpa using hk
      have w2 : IntKind.i64.wrap K = K := IntWalk.i64_in _ (by omega)
      by_cases hneg : D < 0
      · have v3 : IntKind.i64.wrap (-D) = -D := IntWalk.i64_in _ (by omega)
        have v4 : -D = (m : Int) := by omega
        clear hk d1 q1 hm
        go_wp2_with (at_builtin; refine wpList_append_own _ rfl _ _ 49 rfl w.heap.size 5 ti (.int .u8 0) 1 1 Tryd.underlying49 HI.out hz0 hz1 hz2 rfl (by decide) _ _ _ rfl HOWN.out ⟨g, 0, none⟩ out.length c (out.map (Value.int .u8)) rfl (by simp) HRD.out ?c1 ?c3 ?c4 ?c5 ?_)
        case c1 => intro u hu; first | rfl | (obtain ⟨y, _, rfl⟩ := List.mem_map.1 hu; rfl)
        case c3 => unfold maxLen; omega
        case c4 => omega
        case c5 => (try simp only [World.size_alloc]); omega
        intro v' w3 hown3 hgrow _
        have HV3 : Hid (OutB w w.heap.size ((48 + (m : Int)) :: out) v' w3) := by
          refine ⟨?_, below_grown HBE.out HOWN.out (Nat.le_refl _) hgrow, ?_⟩
          · rw [List.length_cons, Nat.add_comm out.length]
            exact hown3
          · have := hgrow.size
            simp only [World.size_alloc] at this
            omega
        obtain ⟨g3, c3, rfl, _⟩ := own_at HV3.out.1 (by simp)
        have HLC : Hid (((48 + (m : Int)) :: out).length = out.length + 1) := rfl
        clear hown3 hgrow HRD HOWN hownL HBE HO HK
        go_wp2
        go_roundw
        case rel => exact ⟨K, (48 + (m : Int)) :: out, g3, c3, rfl, rfl, by omega, by omega, HKK.out, HV3.out⟩
        case measure => simp [intOf]; exact HKL.out
      · have v4 : D = (m : Int) := by omega
        clear hk d1 q1 hm
        go_wp2_with (at_builtin; refine wpList_append_own _ rfl _ _ 49 rfl w.heap.size 5 ti (.int .u8 0) 1 1 Tryd.underlying49 HI.out hz0 hz1 hz2 rfl (by decide) _ _ _ rfl HOWN.out ⟨g, 0, none⟩ out.length c (out.map (Value.int .u8)) rfl (by simp) HRD.out ?c1 ?c3 ?c4 ?c5 ?_)
        case c1 => intro u hu; first | rfl | (obtain ⟨y, _, rfl⟩ := List.mem_map.1 hu; rfl)
        case c3 => unfold maxLen; omega
        case c4 => omega
        case c5 => (try simp only [World.size_alloc]); omega
        intro v' w3 hown3 hgrow _
        have HV3 : Hid (OutB w w.heap.size ((48 + (m : Int)) :: out) v' w3) := by
          refine ⟨?_, below_grown HBE.out HOWN.out (Nat.le_refl _) hgrow, ?_⟩
          · rw [List.length_cons, Nat.add_comm out.length]
            exact hown3
          · have := hgrow.size
            simp only [World.size_alloc] at this
            omega
        obtain ⟨g3, c3, rfl, _⟩ := own_at HV3.out.1 (by simp)
        have HLC : Hid (((48 + (m : Int)) :: out).length = out.length + 1) := rfl
        clear hown3 hgrow HRD HOWN hownL HBE HO HK
        go_wp2
        go_roundw
        case rel => exact ⟨K, (48 + (m : Int)) :: out, g3, c3, rfl, rfl, by omega, by omega, HKK.out, HV3.out⟩
        case measure => simp [intOf]; exact HKL.out
end Go.Proofs.YtaajdkgcfoppeaaDoor
