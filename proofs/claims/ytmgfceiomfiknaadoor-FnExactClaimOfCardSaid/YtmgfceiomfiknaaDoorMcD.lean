/- XDecNP XDecNW XJoin XFrame XDoor in one text. No condition but those that each theorem names. -/
import Derived.Test.YtmgfceiomfiknaaDoorPackW
import Derived.Lib.ItoaNum
import Derived.Lib.ItoaLen
import Derived.Lib.ItoaMem
import Derived.Test.YtmgfceiomfiknaaDoorShelf
import Derived.Test.YtmgfceiomfiknaaDoorKeepA
import Derived.Lib.AppendIntMem
import Derived.Test.YtmgfceiomfiknaaDoorRows
import Derived.JoinedOf
import Derived.Test.YtmgfceiomfiknaaDoorSlices
import Derived.ProofKit
import Derived.OpenShut
import Derived.ShutString
import Derived.ChangeOld
import Derived.Lib.SmallJoins
import Derived.Test.YtmgfceiomfiknaaDoorCards
import Derived.Test.YtmgfceiomfiknaaDoorTie
import Derived.Lib.LaidTab
import Derived.Lib.LaidIn
import Derived.Stop.LaidErr
import Derived.LaidLaws
import Derived.SevenTiedAt
import Derived.ChangeVars
/- Numbers in decimal: the plain law. No condition but those that each theorem names. -/
namespace Go.Proofs.YtmgfceiomfiknaaDoor
open Go.RowKit Go.Sort

/-- The digits of a number, as bytes; none for 0. -/
def dg0 (u : Nat) : List Int := if u = 0 then [] else dg0 (u / 10) ++ [48 + ((u % 10 : Nat) : Int)]
termination_by u
decreasing_by omega
theorem dg0_zero : dg0 0 = [] := by rw [dg0, if_pos rfl]
theorem dg0_pos {u : Nat} (h : u ≠ 0) : dg0 u = dg0 (u / 10) ++ [48 + ((u % 10 : Nat) : Int)] := by rw [dg0, if_neg h]
/-- A number's decimal text. -/
def decB (n : Int) : ByteArray := ⟨(Lib.itoa n).toArray⟩
theorem dec_map : ∀ (k u : Nat), u ≤ k → 0 < u → (dg0 u).map (fun n => UInt8.ofNat n.toNat) = Lib.decDigits u
  | 0, u, hk, h0 => by omega
  | k + 1, u, hk, h0 => by
    rw [dg0_pos (by omega), List.map_append]
    by_cases h : u < 10
    · rw [Lib.decDigits, dif_pos h, show u / 10 = 0 by omega, dg0_zero]
      simp only [List.map_nil, List.nil_append, List.map_cons]
      rw [show u % 10 = u by omega]
      rfl
    · rw [Lib.decDigits, dif_neg h, dec_map k (u / 10) (by omega) (by omega)]
      rfl
theorem byS_dg0 {u : Nat} (h : 0 < u) : byS (dg0 u) = ⟨(Lib.decDigits u).toArray⟩ := by
  unfold byS
  rw [dec_map u u (Nat.le_refl _) h]
theorem dg0_byte : ∀ (k u : Nat), u ≤ k → ∀ b ∈ dg0 u, 0 ≤ b ∧ b ≤ 255
  | 0, u, hk, b, hb => by
    obtain rfl : u = 0 := by omega
    rw [dg0_zero] at hb
    simp at hb
  | k + 1, u, hk, b, hb => by
    by_cases h : u = 0
    · subst h
      rw [dg0_zero] at hb
      simp at hb
    · rw [dg0_pos h] at hb
      rcases List.mem_append.1 hb with hb | hb
      · exact dg0_byte k (u / 10) (by omega) b hb
      · simp only [List.mem_cons, List.not_mem_nil, or_false] at hb
        omega
theorem dg0_len : ∀ (k u : Nat), u < 10 ^ k → (dg0 u).length ≤ k
  | 0, u, h => by
    obtain rfl : u = 0 := by simp at h; omega
    rw [dg0_zero]; simp
  | k + 1, u, h => by
    by_cases h0 : u = 0
    · subst h0; rw [dg0_zero]; simp
    · rw [dg0_pos h0, List.length_append]
      have := dg0_len k (u / 10) (by rw [Nat.pow_succ] at h; omega)
      simp; omega
theorem dg0_ne {u : Nat} (h : 0 < u) : 0 < (dg0 u).length := by rw [dg0_pos (by omega)]; simp
theorem decB_zero : decB 0 = ⟨#[48]⟩ := by
  unfold decB Lib.itoa
  rw [if_neg (by omega)]
  rw [Lib.decDigits, dif_pos (by decide)]
  rfl
theorem decB_pos {n : Int} (h : 0 < n) : decB n = byS (dg0 n.natAbs) := by
  rw [byS_dg0 (by omega)]
  unfold decB Lib.itoa
  rw [if_neg (by omega), show n.toNat = n.natAbs by omega]
theorem decB_neg {n : Int} (h : n < 0) : decB n = ⟨#[45]⟩ ++ byS (dg0 n.natAbs) := by
  rw [byS_dg0 (by omega)]
  unfold decB Lib.itoa
  rw [if_pos h]
  apply ByteArray.ext
  simp [ByteArray.data_append]
theorem decB_size {n : Int} (h0 : -9223372036854775808 ≤ n) (h1 : n ≤ 9223372036854775807) : (decB n).size ≤ 21 := by
  have := Lib.itoa_length_le n h0 h1
  show (Lib.itoa n).toArray.size ≤ 21
  simpa using this
end Go.Proofs.YtmgfceiomfiknaaDoor

/- Numbers in decimal: both walks. No condition but those that each theorem names. -/
namespace Go.Proofs.YtmgfceiomfiknaaDoor
open Go.RowKit Go.Sort

/-- The table of the powers of ten lies in memory. -/
def Tab10 (w : World) : Prop := Lib.TabIs Tryd.prog w "internal/strconv.uint64pow10" .u64 Lib.pow10Tab
theorem Tab10.next {w W : World} (h : Tab10 w) (hb : Below w.heap.size w W) : Tab10 W := Lib.tabBelow_of_tabIs h W hb
theorem iDecimal_any (n : Int) (w : World) (n1 : -9223372036854775808 ≤ n) (n2 : n ≤ 9223372036854775807) (h : Tab10 w) :
    Calls Tryd.prog 25 #[.int .i64 n] w fun e w' => e = .returned (.string (decB n)) ∧ Below w.heap.size w w' := by
  have HF : Hid (Calls Tryd.prog 47 #[.int .i64 n, .int .i64 10] w fun e w' => e = .returned (.string (decB n)) ∧ Below w.heap.size w w') := by
    refine (Tryd.strconv_FormatInt_10 n n1 n2 w h).mono ?_
    rintro e w' ⟨rfl, k, os, rfl⟩
    exact ⟨rfl, Lib.below_grow _ w (Nat.le_refl _) k os⟩
  generalize decB n = d at *
  clear h n1 n2
  go_enter Tryd.func25, Tryd.ntmps25
  go_wp2_with fail
  refine HF.out.mono ?_
  rintro e w1 ⟨rfl, hb⟩
  go_wp2
  go_ret
  exact ⟨rfl, hb⟩
theorem tm_eqs (k : Int) (h1 : -9223372036854775808 ≤ k) (h2 : k ≤ 9223372036854775807) : ∃ D K : Int, k.tmod 10 = D ∧ k.tdiv 10 = K ∧ (D.natAbs = k.natAbs % 10) ∧ K.natAbs = k.natAbs / 10 ∧ -9 ≤ D ∧ D ≤ 9 ∧ -922337203685477580 ≤ K ∧ K ≤ 922337203685477580 := by
  refine ⟨_, _, rfl, rfl, by rw [Int.natAbs_tmod]; rfl, by rw [Int.natAbs_tdiv]; rfl, ?_, ?_, ?_, ?_⟩
  all_goals
    have e1 : (k.tmod 10).natAbs = k.natAbs % 10 := by rw [Int.natAbs_tmod]; rfl
    have e2 : (k.tdiv 10).natAbs = k.natAbs / 10 := by rw [Int.natAbs_tdiv]; rfl
    omega
set_option maxRecDepth 100000 in
set_option maxHeartbeats 4000000 in
theorem l01Dec_any (n : Int) (w : World) (n1 : -9223372036854775808 ≤ n) (n2 : n ≤ 9223372036854775807) :
    Calls Tryd.prog 37 #[.int .i64 n] w fun e w' => e = .returned (.string (decB n)) ∧ Below w.heap.size w w' := by
  obtain ⟨ti, hi, hz0, hz1, hz2⟩ := info_parts info8
  have HI := Lib.hid hi
  have hlen := dg0_len 20 n.natAbs (by have : (10 : Nat) ^ 20 = 100000000000000000000 := by decide
                                       omega)
  have HBY := Lib.hid (dg0_byte n.natAbs n.natAbs (Nat.le_refl _))
  have H0 : Hid (n ≠ 0 → 0 < (dg0 n.natAbs).length) := fun h => dg0_ne (by omega)
  have HZ : Hid (n = 0 → dg0 n.natAbs = []) := fun h => by rw [h]; exact dg0_zero
  have HD : Hid ((n = 0 → decB n = ⟨#[48]⟩) ∧ (0 < n → decB n = byS (dg0 n.natAbs)) ∧ (n < 0 → decB n = ⟨#[45]⟩ ++ byS (dg0 n.natAbs))) := ⟨fun h => by rw [h]; exact decB_zero, decB_pos, decB_neg⟩
  obtain ⟨R, hR⟩ : ∃ R, dg0 n.natAbs = R := ⟨_, rfl⟩
  rw [hR] at hlen HBY H0 HZ HD
  have HR := Lib.hid hR
  have O : Hid (OutB w w.heap.size [] (.slice (some ⟨w.heap.size, 0, none⟩) 0 0) (w.alloc (.cells #[] 5))) := by
    refine ⟨?_, ext1 _ _, by simp⟩
    have h := World.ownsRow_lit (base := w.heap.size) (e := 5) (size := 1) w #[] 0 (Nat.le_refl _) (by unfold maxLen; omega) rfl
    simpa using h
  generalize decB n = d at *
  clear hi hR
  go_enter Tryd.func37, Tryd.ntmps37
  go_wp2_with fail
  go_loopw [3, 4, 5] (fun v t u wr => ∃ (k : Int) (out : List Int) (g c : Nat), t = .int .i64 k ∧ v = .slice (some ⟨g, 0, none⟩) out.length c ∧ -9223372036854775808 ≤ k ∧ k ≤ 9223372036854775807 ∧ Hid (dg0 k.natAbs ++ out = R) ∧ Hid (OutB w w.heap.size out v wr)) (fun _ t _ _ => (intOf t).natAbs)
  case atStart => exact ⟨n, [], w.heap.size, 0, rfl, rfl, n1, n2, by unfold Hid; rw [List.append_nil]; exact HR.out, O.out⟩
  case round =>
    obtain ⟨k, out, g, c, rfl, rfl, k1, k2, HK, HO⟩ := hrel
    clear O
    by_cases hk : k = 0
    · have hRe : Hid (R = out) := by
        have h := HK.out
        rw [hk, show (0 : Int).natAbs = 0 from rfl, dg0_zero, List.nil_append] at h
        exact h.symm
      have hH := HO.out
      rw [← hRe.out] at hH
      have HO2 := Lib.hid hH
      have hlr : R.length = out.length := by rw [hRe.out]
      have HLR := Lib.hid hlr
      rw [← HLR.out]
      clear hH HO HK
      by_cases hn : n = 0
      · have e0 : R = [] := HZ.out hn
        have e1 : d = ⟨#[48]⟩ := HD.out.1 hn
        subst e0 e1
        have HB2 := Lib.hid HO2.out.2.1
        clear HD HZ H0 HBY hRe hlr HLR HO2
        simp only [List.length_nil]
        go_wp2
        go_ret
        exact ⟨rfl, HB2.out⟩
      · have hp := H0.out hn
        have hp1 : ((R.length : Int) == 0) = false := by rw [beq_eq_false_iff_ne]; omega
        have HB2 := Lib.hid HO2.out.2.1
        obtain ⟨_, A2, c2, e2, hw⟩ := Wr.of_own HO2.out.1
        injection e2 with e3 e4 e5
        subst e3
        have hcv := conv_bytes (c := c2) hw.rd HBY.out hp
        have hzs : (byS R).size ≤ 20 := by rw [byS_size]; exact hlen
        rcases Int.lt_or_gt_of_ne hn with h | h
        · have e1 := HD.out.2.2 h
          generalize byS R = Z at *
          have HE := Lib.hid e1
          clear HD HZ H0 HBY hRe hlr HLR HO2 hw hp
          go_wp2
          go_ret
          exact ⟨rfl, HB2.out⟩
        · have e1 := HD.out.2.1 h
          have hn2 : ¬ n < 0 := by omega
          generalize byS R = Z at *
          have HE := Lib.hid e1
          clear HD HZ H0 HBY hRe hlr HLR HO2 hw hp
          go_wp2
          go_ret
          exact ⟨rfl, HB2.out⟩
    · obtain ⟨D, K, hD1, hK1, d1, q1, d2, d3, q2, q3⟩ := tm_eqs k k1 k2
      obtain ⟨m, hm⟩ : ∃ m : Nat, k.natAbs % 10 = m := ⟨_, rfl⟩
      have hm9 : m ≤ 9 := by omega
      have HKK : Hid (dg0 K.natAbs ++ ((48 + (m : Int)) :: out) = R) := by
        have h := HK.out
        rw [dg0_pos (by omega), hm, List.append_assoc] at h
        unfold Hid
        rw [q1]
        exact h
      have hlo : out.length + 1 ≤ 20 := by
        have h := congrArg List.length HKK.out
        rw [List.length_append, List.length_cons] at h
        omega
      have hkK : K.natAbs < k.natAbs := by omega
      have HKL := Lib.hid hkK
      have v1 : IntKind.i64.wrap (48 + (m : Int)) = 48 + (m : Int) := IntWalk.i64_in _ (by omega)
      have v2 : IntKind.u8.wrap (48 + (m : Int)) = 48 + (m : Int) := by simp [IntKind.wrap, IntKind.bits, IntKind.signed]; omega
      have HRD : Hid (∀ j u, (out.map (Value.int .u8))[j]? = some u → (wr.alloc (.cells #[.int .u8 (48 + (m : Int))] 5)).cell? ((⟨g, 0, none⟩ : Addr).add j) = some u) := fun j u hu => by
        have hh := own_below HO.out.1 (ext1 wr (.cells #[.int .u8 (48 + (m : Int))] 5))
        exact hh.cells (g := g) rfl j u hu
      have hownL : World.ownsRow (wr.alloc (.cells #[.int .u8 (48 + (m : Int))] 5)) w.heap.size 5 1 (.slice (some ⟨wr.heap.size, 0, none⟩) 1 1) 1 [.int .u8 (48 + (m : Int))] := by
        have h := World.ownsRow_lit (base := w.heap.size) (e := 5) (size := 1) wr #[.int .u8 (48 + (m : Int))] 1 HO.out.2.2 (by unfold maxLen; omega) rfl
        simpa using h
      have HBE : Hid (Below w.heap.size w (wr.alloc (.cells #[.int .u8 (48 + (m : Int))] 5))) := ext_alloc HO.out.2.1 _
      have hbz := HO.out.2.2
      have HOWN := Lib.hid hownL
      have kne : (k != 0) = true := by simpa using hk
      have w2 : IntKind.i64.wrap K = K := IntWalk.i64_in _ (by omega)
      by_cases hneg : D < 0
      · have v3 : IntKind.i64.wrap (-D) = -D := IntWalk.i64_in _ (by omega)
        have v4 : -D = (m : Int) := by omega
        clear hk d1 q1 hm
        go_wp2_with (at_builtin; refine wpList_append_own _ rfl _ _ 72 rfl w.heap.size 5 ti (.int .u8 0) 1 1 Tryd.underlying72 HI.out hz0 hz1 hz2 rfl (by decide) _ _ _ rfl HOWN.out ⟨g, 0, none⟩ out.length c (out.map (Value.int .u8)) rfl (by simp) HRD.out ?c1 ?c3 ?c4 ?c5 ?_)
        case c1 => intro u hu; first | rfl | (obtain ⟨y, _, rfl⟩ := List.mem_map.1 hu; rfl)
        case c3 => unfold maxLen; omega
        case c4 => omega
        case c5 => (try simp only [World.size_alloc]); omega
        intro v' w3 hown3 hgrow _
        have HV3 : Hid (OutB w w.heap.size ((48 + (m : Int)) :: out) v' w3) := by
          refine ⟨?_, below_grown HBE.out HOWN.out (Nat.le_refl _) hgrow, ?_⟩
          · rw [List.length_cons, Nat.add_comm out.length]
            exact hown3
          · have := hgrow.size
            simp only [World.size_alloc] at this
            omega
        obtain ⟨g3, c3, rfl, _⟩ := own_at HV3.out.1 (by simp)
        have HLC : Hid (((48 + (m : Int)) :: out).length = out.length + 1) := rfl
        clear hown3 hgrow HRD HOWN hownL HBE HO HK
        go_wp2
        go_roundw
        case rel => exact ⟨K, (48 + (m : Int)) :: out, g3, c3, rfl, rfl, by omega, by omega, HKK.out, HV3.out⟩
        case measure => simp [intOf]; exact HKL.out
      · have v4 : D = (m : Int) := by omega
        clear hk d1 q1 hm
        go_wp2_with (at_builtin; refine wpList_append_own _ rfl _ _ 72 rfl w.heap.size 5 ti (.int .u8 0) 1 1 Tryd.underlying72 HI.out hz0 hz1 hz2 rfl (by decide) _ _ _ rfl HOWN.out ⟨g, 0, none⟩ out.length c (out.map (Value.int .u8)) rfl (by simp) HRD.out ?c1 ?c3 ?c4 ?c5 ?_)
        case c1 => intro u hu; first | rfl | (obtain ⟨y, _, rfl⟩ := List.mem_map.1 hu; rfl)
        case c3 => unfold maxLen; omega
        case c4 => omega
        case c5 => (try simp only [World.size_alloc]); omega
        intro v' w3 hown3 hgrow _
        have HV3 : Hid (OutB w w.heap.size ((48 + (m : Int)) :: out) v' w3) := by
          refine ⟨?_, below_grown HBE.out HOWN.out (Nat.le_refl _) hgrow, ?_⟩
          · rw [List.length_cons, Nat.add_comm out.length]
            exact hown3
          · have := hgrow.size
            simp only [World.size_alloc] at this
            omega
        obtain ⟨g3, c3, rfl, _⟩ := own_at HV3.out.1 (by simp)
        have HLC : Hid (((48 + (m : Int)) :: out).length = out.length + 1) := rfl
        clear hown3 hgrow HRD HOWN hownL HBE HO HK
        go_wp2
        go_roundw
        case rel => exact ⟨K, (48 + (m : Int)) :: out, g3, c3, rfl, rfl, by omega, by omega, HKK.out, HV3.out⟩
        case measure => simp [intOf]; exact HKL.out
end Go.Proofs.YtmgfceiomfiknaaDoor

/- Closed facts of the seat's program, each by itself, and how they join. No condition. -/
namespace Go.Proofs.YtmgfceiomfiknaaDoor

theorem frLaid : laidOutB Tryd.prog = true := by kernel_rfl
theorem frRowed : mapsRowed Tryd.prog = true := by kernel_rfl
theorem frKeys : Tryd.prog.plainKeys = false := by kernel_rfl
theorem frHeard : Tryd.prog.stopsHeard = true := by kernel_rfl
theorem frEnter : Tryd.prog.mayEnter = true := by kernel_rfl
theorem frLift : (({ program := "", sum := "", func := "", spec := "" } : OpenClaim).lifted == Tryd.prog.liftsFinal) = true := by kernel_rfl
theorem frMake : (Tryd.prog.make == some ({ program := "", sum := "", func := "", spec := "" } : OpenClaim).make) = true := by kernel_rfl
theorem frStops : (Tryd.prog.stops == []) = true := by kernel_rfl
theorem frKnobs : (Tryd.prog.stopKnobs == []) = true := by kernel_rfl

theorem joined_of {f : FuncId} {fn : Func} {s : ChangeSpec} {c : OpenClaim} (a1 : c.wf (OpenSpec.ofChange s) = true) (a2 : fn.params.all (Tryd.prog.readableRec ·) = true) (a3 : namedTie Tryd.prog c.named s.vars = true)
    (a4 : (c.stops == []) = true) (a5 : (c.knobs == []) = true) (a6 : (c.inPlace == Tryd.prog.inPlace f) = true) (a7 : (c.unfollowed == Tryd.prog.unfollowed f) = true) (a8 : (c.recurses == Tryd.prog.recurses f) = true) (a9 : (c.named == Tryd.prog.varsNamed f) = true)
    (a10 : (c.maps == (fn.params.toList ++ s.plain.varTypes Tryd.prog).any (Tryd.prog.mapsRec ·)) = true) (a11 : (c.ifaces == (fn.params.toList ++ s.plain.varTypes Tryd.prog).any (Tryd.prog.ifacesRec ·)) = true) (a12 : (c.mapsOut == Tryd.prog.mapsAmong fn.resultTypes.toList) = true)
    (a13 : (c.loops == (fn.params.toList ++ s.plain.varTypes Tryd.prog).any (Tryd.prog.loopsFrom ·)) = true) (a14 : (c.wideKeys == (fn.params.toList ++ s.plain.varTypes Tryd.prog ++ fn.resultTypes.toList).any (Tryd.prog.wideKeysFrom ·)) = true)
    (a15 : s.vars.all (Tryd.prog.varReadable ·) = true) (a16 : fn.resultTypes.all (fun t => Tryd.prog.readableRec t && decide (t < Tryd.prog.types.size)) = true) (a17 : (c.ifacesOut == fn.resultTypes.toList.any (Tryd.prog.ifacesRec ·)) = true) (a18 : (c.loopsOut == fn.resultTypes.toList.any (Tryd.prog.loopsFrom ·)) = true)
    (a19 : c.plainKeys = false) (a20 : c.shortTexts.isNone = true) (a21 : c.lifted = ({ program := "", sum := "", func := "", spec := "" } : OpenClaim).lifted) (a22 : c.make = ({ program := "", sum := "", func := "", spec := "" } : OpenClaim).make)
    (a23 : c.kinds = []) (a23' : c.domain = []) (a24 : (c.pinned == c.pinnedBy) = true)
    (a25 : (c.veiled == (fn.params.toList ++ s.plain.varTypes Tryd.prog ++ fn.resultTypes.toList).any (Tryd.prog.veiledRec ·)) = true) (a26 : c.veiledFits Tryd.prog fn.params.toList (fn.params.toList ++ s.plain.varTypes Tryd.prog ++ fn.resultTypes.toList) = true) :
    joinedFacts Tryd.prog f fn s c = true := by
  have b19 : (c.plainKeys == Tryd.prog.plainKeys) = true := by rw [a19, frKeys]; rfl
  have b21 : (c.lifted == Tryd.prog.liftsFinal) = true := by rw [a21]; exact frLift
  have b22 : (Tryd.prog.make == some c.make) = true := by rw [a22]; exact frMake
  unfold joinedFacts
  rw [a1, frLaid, frRowed, a2, a3, a4, frStops, a5, frKnobs, a6, a7, a8, a9, a10, a11, a12, a13, a14, a15, a16, a17, a18, b19, a20, frHeard, frEnter, b21, b22, a23, a23', a24, a25, a26]
  rfl
end Go.Proofs.YtmgfceiomfiknaaDoor

/- How an argument of a statement is opened: slices of integers. No condition. -/
namespace Go.Proofs.YtmgfceiomfiknaaDoor
open Go.ChangeShapes Go.WideShapes Go.ChangeAt Go.RowKit

/-- What a walk is told of a slice of integers that came in: it is nil; or it leads to a row of 'cap' cells, the numbers 'zs' (the first 'len' are its elements). -/
def IsRow (k : IntKind) (w : World) (a : Option Addr) (len cap : Nat) (zs : List Int) : Prop :=
  (a = none ∧ len = 0 ∧ cap = 0 ∧ zs = []) ∨
  ∃ x, a = some x ∧ len ≤ cap ∧ cap ≤ maxLen ∧ zs.length = cap ∧ (∀ i, i < zs.length → w.cell? (x.add i) = some (.int k (zs.getD i 0))) ∧ ∀ n ∈ zs, (Lit.int k n).wf = true

section
variable {H : Type} {enc : TypeId × Value → H} {P : Program} {w : World}
theorem isRow_of {t e : TypeId} {k : IntKind} {fuel : Nat} {cs : List Value} {x : DataW H × List MemPlace} (ht : P.underlying t = some (.slice e)) (he : P.underlying e = some (.int k)) (hc : P.cellsOf e = 1)
    (hf : DataW.trod enc P w 0 (fun _ => true) true fuel t cs = some x) : ∃ A l c zs, cs = [Value.slice A l c] ∧ IsRow k w A l c zs := by
  rcases open_ints ht he hc hf with ⟨hcs, _⟩ | ⟨x, l, c, zs, hcs, _, hl, hm, hz, _, hcell, hwz⟩
  · exact ⟨none, 0, 0, [], hcs, .inl ⟨rfl, rfl, rfl, rfl⟩⟩
  · exact ⟨some x, l, c, zs, hcs, .inr ⟨_, rfl, hl, hm, by simpa using hz, hcell, hwz⟩⟩

theorem isRow_arg {t e : TypeId} {k : IntKind} {A : Option Addr} {l c : Nat} {d : DataW H} {ps : List MemPlace} (ht : P.underlying t = some (.slice e)) (he : P.underlying e = some (.int k)) (hc : P.cellsOf e = 1)
    (h : DataW.Trod enc P w 0 (fun _ => true) true t (.slice A l c) d ps) : ∃ zs, IsRow k w A l c zs := by
  obtain ⟨fuel, hf⟩ := h
  obtain ⟨A', l', c', zs, hcs, hr⟩ := isRow_of ht he hc hf
  simp [Value.cells] at hcs
  obtain ⟨rfl, rfl, rfl⟩ := hcs
  exact ⟨zs, hr⟩
end

theorem cell_plain {w : World} {x : Addr} {v : Value} (h : w.cell? x = some v) : ∃ b off, x = ⟨b, off, none⟩ ∧ b < w.heap.size := by
  obtain ⟨b, off, spot⟩ := x
  have hlt := block_lt_of_cell h
  cases spot with
  | none => exact ⟨b, off, rfl, hlt⟩
  | some s =>
    exfalso
    simp only [World.cell?] at h
    split at h
    · simp at h
    · cases h

theorem IsRow.rd {w : World} {A : Option Addr} {l c : Nat} {zs : List Int} (h : IsRow .i64 w A l c zs) : (zs.take l).length = l ∧ l ≤ maxLen ∧ Rd (Value.int .i64) w w.heap.size A (zs.take l) ∧ ∀ n ∈ zs.take l, (Lit.int .i64 n).wf = true := by
  rcases h with ⟨rfl, rfl, rfl, rfl⟩ | ⟨x, rfl, hl, hm, hz, hc, hw⟩
  · exact ⟨rfl, Nat.zero_le _, fun h => absurd h (by simp), fun n hn => absurd hn (by simp)⟩
  · have hlen : (zs.take l).length = l := by rw [List.length_take]; omega
    refine ⟨hlen, by omega, fun hp => ?_, fun n hn => hw n (List.mem_of_mem_take hn)⟩
    obtain ⟨b, off, e, hb⟩ := cell_plain (hc 0 (by omega))
    have ex : x = ⟨b, off, none⟩ := by
      have : x.add 0 = x := by simp [Addr.add]
      rw [← this]; exact e
    subst ex
    refine ⟨b, off, rfl, hb, fun j y hy => ?_⟩
    have hj : j < zs.length := by
      have := (List.getElem?_eq_some_iff.1 hy).1
      omega
    have hcj := hc j hj
    have ea : (⟨b, off, none⟩ : Addr).add j = ⟨b, off + j, none⟩ := by
      unfold Addr.add
      by_cases hj : j = 0 <;> simp [hj]
    rw [ea] at hcj
    rw [hcj]
    have hy' : zs[j]? = some y := by
      rw [List.getElem?_take] at hy
      split at hy
      · exact hy
      · cases hy
    simp [List.getD, hy']
end Go.Proofs.YtmgfceiomfiknaaDoor

/- What a row that lists the table of the powers of ten tells. No condition but those that each theorem names. -/
namespace Go.Proofs.YtmgfceiomfiknaaDoor
open Go.RowKit Go.Sort Go.Lib

theorem tab_of {W : World} (h : laidMet Tryd.prog [("internal/strconv.uint64pow10", Rows.laid_internal_strconv_uint64pow10)] W) : Lib.TabIs Tryd.prog W "internal/strconv.uint64pow10" .u64 Lib.pow10Tab :=
  Lib.tabIs_of_head (g := 0) (by kernel_rfl) (by kernel_rfl) Tryd.underlying132 Tryd.underlying108 (by kernel_rfl) (by kernel_rfl) h
end Go.Proofs.YtmgfceiomfiknaaDoor
