/- readNote and ReadNotes: the program's walks. No condition but those that each theorem names. -/
import Derived.Test.YtpnabggpdgjbmaaGreatDoorMgBD
import Derived.Test.YtpnabggpdgjbmaaGreatDoorMgBG
import Derived.Test.YtpnabggpdgjbmaaGreatDoorMgAO
import Derived.Test.YtpnabggpdgjbmaaGreatDoorMgAN
import Derived.Test.YtpnabggpdgjbmaaGreatDoorMgBB
namespace Go.Proofs.YtpnabggpdgjbmaaGreatDoor
open Go.RowKit Go.Sort
/-- What a call returns that reads a note. -/
def RetNo (w : World) (R : Option Nt) (e : Ending) (w' : World) : Prop :=
  ∃ (x : Nt) (T : Option Addr) (c : Nat), e = .returned (.tuple #[ntV x.name x.kind x.num x.den T x.terms.length c x.sp x.sd x.sq, .bool R.isSome]) ∧ (∀ y, R = some y → x = y) ∧ WrT w' w.heap.size T c x.terms ∧ x.terms.length ≤ 60 ∧ Below w.heap.size w w'
theorem wrT_nil {w : World} {B : Nat} : WrT w B none 0 [] := ⟨fun h => absurd h (by simp), by simp, by unfold maxLen; omega⟩
set_option maxRecDepth 100000 in
set_option maxHeartbeats 4000000 in
theorem iReadNote_any (name own : ByteArray) (w : World) (hs : own.size ≤ 100000000) (hV : Vars w) :
    Calls Tryz.prog 50 #[.string name, .string own] w (RetNo w (rdN name own)) := by
  have HF := Lib.hid (fun (W : World) (hb : Below w.heap.size w W) => iReadFraction_any own W hs (hV.next hb))
  have HT := Lib.hid (fun (W : World) (hb : Below w.heap.size w W) => iReadTerms_any own W hs (hV.next hb))
  have HS := Lib.hid (fun (W : World) (hb : Below w.heap.size w W) => iReadSurd_any own W hs (hV.next hb))
  have R0 := Lib.hid (BoxV.new w #[.string ⟨#[]⟩, .int .i64 0, .int .i64 0, .int .i64 0, .slice none 0 0, .int .i64 0, .int .i64 0, .int .i64 0] 31)
  have E0 := Lib.hid (ext1 w (.cells #[.string ⟨#[]⟩, .int .i64 0, .int .i64 0, .int .i64 0, .slice none 0 0, .int .i64 0, .int .i64 0, .int .i64 0] 31))
  unfold RetTm at HT
  unfold fracV at HF
  unfold surdV at HS
  cases h1 : rfO own with
  | some y =>
    obtain ⟨n, d⟩ := y
    have HR : Hid (rdN name own = some ⟨name, 1, n, d, [], 0, 0, 0⟩) := by unfold rdN; rw [h1]; rfl
    obtain ⟨a1, a2, a3⟩ := rf_some h1
    rw [a1, a2, a3] at HF
    generalize rdN name own = R at *
    clear h1 a1 a2 a3 HT HS hV
    go_enter Tryz.func50, Tryz.ntmps50
    go_wp2_with fail
    refine (HF.out _ E0.out).mono ?_
    rintro e w1 ⟨rfl, hb1⟩
    go_upto_region 2 with fail
    have BX := Lib.hid (BoxV.new w1 #[.int .i64 n, .int .i64 d] 26)
    have R9 := Lib.hid ((R0.out.next hb1).alloc (.cells #[.int .i64 n, .int .i64 d] 26))
    have E9 := Lib.hid (ext_alloc (ext_trans E0.out hb1) (.cells #[.int .i64 n, .int .i64 d] 26))
    generalize w1.alloc (.cells #[.int .i64 n, .int .i64 d] 26) = W9 at *
    generalize w1.heap.size = g at *
    have x0 := BX.out.at 0 _ rfl
    have x1 := BX.out.at 1 _ rfl
    clear hb1 R0 E0 HF
    have r0 := R9.out.at 0 _ rfl
    have r1 := R9.out.at 1 _ rfl
    have r2 := R9.out.at 2 _ rfl
    have r3 := R9.out.at 3 _ rfl
    have r4 := R9.out.at 4 _ rfl
    have r5 := R9.out.at 5 _ rfl
    have r6 := R9.out.at 6 _ rfl
    have r7 := R9.out.at 7 _ rfl
    have f0 := R9.out.f 0
    have f1 := R9.out.f 1
    have f2 := R9.out.f 2
    have f3 := R9.out.f 3
    have f4 := R9.out.f 4
    have f5 := R9.out.f 5
    have f6 := R9.out.f 6
    have f7 := R9.out.f 7
    go_wp2
    refine bodyPost_ret (v := .tuple #[ntV name 1 n d none 0 0 0 0 0, .bool true]) (by simp [results, Tryz.results50, go_sem, r0, r1, r2, r3, r4, r5, r6, r7]; done) rfl ?_
    rw [HR.out]
    refine ⟨⟨name, 1, n, d, [], 0, 0, 0⟩, none, 0, rfl, fun y hy => Option.some.inj hy, wrT_nil, by simp, ?_⟩
    iterate 8 (refine ext_set ?_ (Nat.le_refl _) _)
    exact E9.out
  | none =>
    obtain ⟨a1, a2, a3⟩ := rf_none h1
    rw [a1, a2, a3] at HF
    cases h2 : rtO own with
    | some ts =>
      have hts := (termsBBd (rtO_iff.1 h2).1).1
      have HR : Hid (rdN name own = some ⟨name, 2, 0, 0, ts, 0, 0, 0⟩) := by unfold rdN; rw [h1]; simp only; rw [h2]; rfl
      rw [h2] at HT
      simp only [Option.getD_some, Option.isSome_some] at HT
      generalize rdN name own = R at *
      clear h1 h2 a1 a2 a3 HS
      go_enter Tryz.func50, Tryz.ntmps50
      go_wp2_with fail
      refine (HF.out _ E0.out).mono ?_
      rintro e w1 ⟨rfl, hb1⟩
      go_upto_region 2 with fail
      have R1 := Lib.hid ((R0.out.next hb1).alloc (.cells #[.int .i64 0, .int .i64 0] 26))
      have E1 := Lib.hid (ext_alloc (ext_trans E0.out hb1) (.cells #[.int .i64 0, .int .i64 0] 26))
      generalize w1.alloc (.cells #[.int .i64 0, .int .i64 0] 26) = W1 at *
      generalize w1.heap.size = g at *
      clear hb1 R0 E0 HF
      go_wp2_with fail
      refine (HT.out _ E1.out).mono ?_
      rintro e w2 ⟨B, c, rfl, hw2, hb2⟩
      have R9 := Lib.hid (R1.out.next hb2)
      have E9 := Lib.hid (ext_trans E1.out hb2)
      have HW := Lib.hid hw2
      have hz1 : w.heap.size < W1.heap.size := R1.out.lt
      clear hb2 hw2 R1 E1 HT hV
      have r0 := R9.out.at 0 _ rfl
      have r1 := R9.out.at 1 _ rfl
      have r2 := R9.out.at 2 _ rfl
      have r3 := R9.out.at 3 _ rfl
      have r4 := R9.out.at 4 _ rfl
      have r5 := R9.out.at 5 _ rfl
      have r6 := R9.out.at 6 _ rfl
      have r7 := R9.out.at 7 _ rfl
      have f0 := R9.out.f 0
      have f1 := R9.out.f 1
      have f2 := R9.out.f 2
      have f3 := R9.out.f 3
      have f4 := R9.out.f 4
      have f5 := R9.out.f 5
      have f6 := R9.out.f 6
      have f7 := R9.out.f 7
      go_wp2
      refine bodyPost_ret (v := .tuple #[ntV name 2 0 0 B ts.length c 0 0 0, .bool true]) (by simp [results, Tryz.results50, go_sem, r0, r1, r2, r3, r4, r5, r6, r7]; done) rfl ?_
      rw [HR.out]
      refine ⟨⟨name, 2, 0, 0, ts, 0, 0, 0⟩, B, c, rfl, fun y hy => Option.some.inj hy, ?_, hts, ?_⟩
      · refine WrT.more (B := W1.heap.size) ?_ (Nat.le_of_lt hz1)
        iterate 8 (refine WrT.setLow ?_ (by exact hz1) _)
        exact HW.out
      · skip
        iterate 8 (refine ext_set ?_ (Nat.le_refl _) _)
        exact E9.out
    | none =>
      have HR1 : Hid (∀ y, rsO own = some y → rdN name own = some ⟨name, 3, 0, 0, [], y.1, y.2.1, y.2.2⟩) := fun y h3 => by unfold rdN; rw [h1]; simp only; rw [h2]; simp only; rw [h3]
      have HR0 : Hid (rsO own = none → rdN name own = none) := fun h3 => by unfold rdN; rw [h1]; simp only; rw [h2]; simp only; rw [h3]
      have HRK : Hid ((rdN name own).isSome = rsK own ∧ ∀ y, rdN name own = some y → (⟨name, 3, 0, 0, [], rsN own, rsM own, rsL own⟩ : Nt) = y) := by
        cases h3 : rsO own with
        | none =>
          rw [HR0.out h3, (rs_none h3).2.2.2]
          exact ⟨rfl, fun y hy => by cases hy⟩
        | some y =>
          obtain ⟨p, d, q⟩ := y
          obtain ⟨b1, b2, b3, b4⟩ := rs_some h3
          rw [HR1.out _ h3, b1, b2, b3, b4]
          exact ⟨rfl, fun y hy => Option.some.inj hy⟩
      rw [h2] at HT
      simp only [Option.getD_none, Option.isSome_none, List.length_nil] at HT
      generalize rdN name own = R at *
      generalize rsN own = p at *
      generalize rsM own = d at *
      generalize rsL own = q at *
      generalize rsK own = k at *
      clear h1 h2 a1 a2 a3 HR0 HR1
      go_enter Tryz.func50, Tryz.ntmps50
      go_wp2_with fail
      refine (HF.out _ E0.out).mono ?_
      rintro e w1 ⟨rfl, hb1⟩
      go_upto_region 2 with fail
      have R1 := Lib.hid ((R0.out.next hb1).alloc (.cells #[.int .i64 0, .int .i64 0] 26))
      have E1 := Lib.hid (ext_alloc (ext_trans E0.out hb1) (.cells #[.int .i64 0, .int .i64 0] 26))
      generalize w1.alloc (.cells #[.int .i64 0, .int .i64 0] 26) = W1 at *
      generalize w1.heap.size = g at *
      clear hb1 R0 E0 HF
      go_wp2_with fail
      refine (HT.out _ E1.out).mono ?_
      rintro e w2 ⟨B, c, rfl, _, hb2⟩
      have R2 := Lib.hid (R1.out.next hb2)
      have E2 := Lib.hid (ext_trans E1.out hb2)
      clear hb2 R1 E1 HT hV
      go_wp2_with fail
      refine (HS.out _ E2.out).mono ?_
      rintro e w3 ⟨rfl, hb3⟩
      go_upto_region 8 with fail
      have BX := Lib.hid (BoxV.new w3 #[.int .i64 p, .int .i64 d, .int .i64 q] 29)
      have R9 := Lib.hid ((R2.out.next hb3).alloc (.cells #[.int .i64 p, .int .i64 d, .int .i64 q] 29))
      have E9 := Lib.hid (ext_alloc (ext_trans E2.out hb3) (.cells #[.int .i64 p, .int .i64 d, .int .i64 q] 29))
      generalize w3.alloc (.cells #[.int .i64 p, .int .i64 d, .int .i64 q] 29) = W9 at *
      generalize w3.heap.size = g3 at *
      have x0 := BX.out.at 0 _ rfl
      have x1 := BX.out.at 1 _ rfl
      have x2 := BX.out.at 2 _ rfl
      clear hb3 R2 E2 HS
      have r0 := R9.out.at 0 _ rfl
      have r1 := R9.out.at 1 _ rfl
      have r2 := R9.out.at 2 _ rfl
      have r3 := R9.out.at 3 _ rfl
      have r4 := R9.out.at 4 _ rfl
      have r5 := R9.out.at 5 _ rfl
      have r6 := R9.out.at 6 _ rfl
      have r7 := R9.out.at 7 _ rfl
      have f0 := R9.out.f 0
      have f1 := R9.out.f 1
      have f2 := R9.out.f 2
      have f3 := R9.out.f 3
      have f4 := R9.out.f 4
      have f5 := R9.out.f 5
      have f6 := R9.out.f 6
      have f7 := R9.out.f 7
      go_wp2
      refine bodyPost_ret (v := .tuple #[ntV name 3 0 0 none 0 0 p d q, .bool k]) (by simp [results, Tryz.results50, go_sem, r0, r1, r2, r3, r4, r5, r6, r7]; done) rfl ?_
      refine ⟨⟨name, 3, 0, 0, [], p, d, q⟩, none, 0, by rw [HRK.out.1]; rfl, HRK.out.2, wrT_nil, by simp, ?_⟩
      iterate 8 (refine ext_set ?_ (Nat.le_refl _) _)
      exact E9.out
/-- What a call returns that reads notes. -/
def RetNtK (w : World) (xs : List Nt) (ok : Bool) (e : Ending) (w' : World) : Prop := ∃ A c, e = .returned (.tuple #[.slice A xs.length c, .bool ok]) ∧ WrNd w' w.heap.size w'.heap.size A xs ∧ Below w.heap.size w w'
theorem RetNtK.nil_ {w w' : World} (ok : Bool) (h : Below w.heap.size w w') : RetNtK w [] ok (.returned (.tuple #[.slice none 0 0, .bool ok])) w' :=
  ⟨none, 0, rfl, ⟨Nat.le_refl _, fun h => absurd h (by simp)⟩, h⟩
theorem OutNt.retK {w w0 W : World} {base : Nat} {rs : List NtR} {own : Nat → Nat} {v : Value} (h : OutNt w0 base rs own v W) (hb : Below w.heap.size w w0) (ok : Bool) {xs : List Nt} (hx : rs.map NtR.x = xs) : RetNtK w xs ok (.returned (.tuple #[v, .bool ok])) W := by
  subst hx
  obtain ⟨A, c, rfl, hw⟩ := h.wr
  exact ⟨A, c, rfl, hw.more (Nat.le_trans hb.size h.low), ext_trans hb h.bel⟩
def rnX (s : ByteArray) : List Nt := (rnO s).getD []
def rnK (s : ByteArray) : Bool := (rnO s).isSome
theorem rn_none_ {s : ByteArray} (h : rnO s = none) : rnX s = [] ∧ rnK s = false := by unfold rnX rnK; rw [h]; exact ⟨rfl, rfl⟩
theorem rn_some_ {s : ByteArray} {L : List Nt} (h : rnO s = some L) : rnX s = L ∧ rnK s = true := by unfold rnX rnK; rw [h]; exact ⟨rfl, rfl⟩
def strZ : Value → Nat
  | .string s => s.size
  | _ => 0
theorem infoNtR : (Tryz.prog.info? 31).map (fun i => (i.zero, i.size, i.bytes)) = some (some (ntV ByteArray.empty 0 0 0 none 0 0 0 0 0), 8, 88) := by kernel_rfl
set_option maxRecDepth 100000 in
set_option maxHeartbeats 8000000 in
theorem iReadNotes_any (s : ByteArray) (w : World) (hs : s.size ≤ 10000000) (hV : Vars w) :
    Calls Tryz.prog 15 #[.string s] w (RetNtK w (rnX s) (rnK s)) := by
  obtain ⟨ti, hi, hz0, hz1, hz2⟩ := info_parts infoNtR
  have HI := Lib.hid hi
  have HVV := Lib.hid (fun (W : World) (hb : Below w.heap.size w W) => hV.next hb)
  have HCUT : Hid (∀ (W : World) (x sep : ByteArray), Below w.heap.size w W → x.size ≤ 1000000000 → Calls Tryz.prog 49 #[.string x, .string sep] W fun e w' => e = .returned (.tuple #[.string (mkL (Lib.cut x.data.toList sep.data.toList).1), .string (mkL (Lib.cut x.data.toList sep.data.toList).2.1), .bool (Lib.cut x.data.toList sep.data.toList).2.2]) ∧ Below W.heap.size W w') := fun W x sep hb hz => Cut_any x sep W hz (HVV.out W hb)
  have HRD : Hid (∀ (W : World) (n o : ByteArray), Below w.heap.size w W → o.size ≤ 100000000 → Calls Tryz.prog 50 #[.string n, .string o] W (RetNo W (rdN n o))) := fun W n o hb hz => iReadNote_any n o W hz (HVV.out W hb)
  have HNT : Hid (∀ (W : World) A c xs, Below w.heap.size w W → RdNt W W.heap.size A xs → (∀ x ∈ xs, x.fits) → xs.length ≤ maxLen → Calls Tryz.prog 14 #[.slice A xs.length c] W fun e w' => e = .returned (.string (ntsB xs)) ∧ Below W.heap.size W w') := fun W A c xs hb h1 h2 h3 => iNotesText_any A c xs W h1 h2 h3 (HVV.out W hb).tab
  have hl := size_list s
  have O := Lib.hid (OutNt.start w)
  have HK : Hid (rnF (s.size + 1) s.data.toList = (rnF (s.size + 1) s.data.toList).map (([] : List Nt) ++ ·)) := by
    unfold Hid
    simp
  have hsm : mkL s.data.toList = s := mkL_back s
  clear hi hV
  go_enter Tryz.func15, Tryz.ntmps15
  go_wp2_with fail
  go_loopw [4, 5] (fun v t wr => ∃ (D : List UInt8) (f : Nat) (rs : List NtR) (own : Nat → Nat) (v0 : Value), v0 = v ∧ t = .string (mkL D) ∧ D.length ≤ 10000000 ∧ D.length < f ∧ rs.length ≤ 40 ∧ Hid (rnF (s.size + 1) s.data.toList = (rnF f D).map ((rs.map NtR.x) ++ ·)) ∧ Hid (∀ x ∈ rs.map NtR.x, x.fits) ∧ Hid (OutNt w w.heap.size rs own v wr)) (fun _ t _ => strZ t)
  case atStart => exact ⟨s.data.toList, s.size + 1, [], _, _, rfl, by rw [hsm], by omega, by omega, by simp, HK.out, fun x hx => by simp at hx, O.out⟩
  case round =>
    obtain ⟨D, f, rs, own, v, rfl, rfl, hD, hf, hrs, HK, HF, HO⟩ := hrel
    clear O hsm
    have hmz := mkL_size D
    by_cases hD0 : D = []
    · have hl0 : D.length = 0 := List.length_eq_zero_iff.2 hD0
      obtain ⟨z1, z2⟩ := empty_eq (x := mkL D) (by omega)
      obtain ⟨f', rfl⟩ : ∃ f', f = f' + 1 := ⟨f - 1, by omega⟩
      have hrx := rn_endX HK.out hD0
      obtain ⟨G1, G2, G3⟩ := (rn_facts s).2 _ hrx
      obtain ⟨A, cp, rfl, hwd⟩ := HO.out.wr
      generalize hxs : rs.map NtR.x = xs at *
      have hlx : xs.length ≤ 40 := by rw [← hxs, List.length_map]; exact hrs
      have HXS := Lib.hid hxs
      have HRDN : Hid (RdNt wr wr.heap.size A xs) := hwd.rd
      have HV := Lib.hid (iValidNotes_any A cp xs wr HRDN.out HF.out (by unfold maxLen; omega))
      clear hwd hxs hrx HK HCUT HRD hD0 hl0
      cases hv : validNt xs
      · have HQ := Lib.hid (rn_none_ (G1 hv))
        rw [hv] at HV
        clear G1 G2 G3 hv
        go_wp2_with fail
        refine HV.out.mono ?_
        rintro e w1 ⟨rfl, hb1⟩
        have E1 := Lib.hid (ext_trans HO.out.bel hb1)
        clear hb1
        go_wp2
        go_ret2
        rw [HQ.out.1, HQ.out.2]
        exact RetNtK.nil_ false E1.out
      · rw [hv] at HV
        have hnb : ntsB xs = ntsO xs xs.length := by unfold ntsB; rw [if_pos hv]
        by_cases hx : ntsO xs xs.length = s
        · have HQ := Lib.hid (rn_some_ (G3 hv hx))
          have heq : ((ntsB xs).toList == s.toList) = true := strEqB (hnb.trans hx)
          clear G1 G2 G3 hv hx hnb
          go_wp2_with fail
          refine HV.out.mono ?_
          rintro e w1 ⟨rfl, hb1⟩
          have HO1 := Lib.hid (HO.out.next hb1)
          have HT := Lib.hid (HNT.out w1 A cp xs HO1.out.bel (HRDN.out.next hb1) HF.out (by unfold maxLen; omega))
          clear hb1
          generalize ntsB xs = X at *
          go_wp2_with fail
          refine HT.out.mono ?_
          rintro e w2 ⟨rfl, hb2⟩
          have HO2 := Lib.hid (HO1.out.next hb2)
          go_wp2
          go_ret2
          rw [HQ.out.1, HQ.out.2]
          exact HO2.out.retK (Below.refl _ _) true HXS.out
        · have HQ := Lib.hid (rn_none_ (G2 hv hx))
          have heq : ((ntsB xs).toList == s.toList) = false := strNeB (by rw [hnb]; exact hx)
          clear G1 G2 G3 hv hx hnb
          go_wp2_with fail
          refine HV.out.mono ?_
          rintro e w1 ⟨rfl, hb1⟩
          have HO1 := Lib.hid (HO.out.next hb1)
          have HT := Lib.hid (HNT.out w1 A cp xs HO1.out.bel (HRDN.out.next hb1) HF.out (by unfold maxLen; omega))
          clear hb1
          generalize ntsB xs = X at *
          go_wp2_with fail
          refine HT.out.mono ?_
          rintro e w2 ⟨rfl, hb2⟩
          have E2 := Lib.hid (ext_trans HO1.out.bel hb2)
          go_wp2
          go_ret2
          rw [HQ.out.1, HQ.out.2]
          exact RetNtK.nil_ false E2.out
    · obtain ⟨z1, z2⟩ := empty_ne (x := mkL D) (by rw [hmz]; have := List.length_pos_iff.2 hD0; omega)
      obtain ⟨f', rfl⟩ : ∃ f', f = f' + 1 := ⟨f - 1, by omega⟩
      have hcs := cut_sz D [10]
      have hsh := cut_short hD0
      obtain ⟨l, m, k, hc⟩ : ∃ l m k, Lib.cut D [10] = (l, m, k) := ⟨_, _, _, rfl⟩
      have hcs2 := cut_sz l [32, 61, 32]
      obtain ⟨nm, ow, k2, hc2⟩ : ∃ nm ow k2, Lib.cut l [32, 61, 32] = (nm, ow, k2) := ⟨_, _, _, rfl⟩
      have HC1 := Lib.hid (HCUT.out wr (mkL D) ⟨#[10]⟩ HO.out.bel (by omega))
      rw [mkL_data] at HC1
      rw [show ({ data := #[10] } : ByteArray).data.toList = [10] from rfl, hc] at HC1
      have HC2 := Lib.hid (fun (W : World) (hb : Below w.heap.size w W) => HCUT.out W (mkL l) ⟨#[32, 61, 32]⟩ hb (by rw [mkL_size]; rw [hc] at hcs; have := hcs.1; simp only at this; omega))
      rw [mkL_data] at HC2
      rw [show ({ data := #[32, 61, 32] } : ByteArray).data.toList = [32, 61, 32] from rfl, hc2] at HC2
      rw [hc] at hcs hsh
      rw [hc2] at hcs2
      simp only at hcs hsh hcs2
      have HR := Lib.hid (fun (W : World) (hb : Below w.heap.size w W) => HRD.out W (mkL nm) (mkL ow) hb (by rw [mkL_size]; omega))
      have hln : lnI (Lib.cut D [10]).1 = rdN (mkL nm) (mkL ow) := by
        unfold lnI
        rw [hc]
        simp only
        rw [hc2]
      have HLN := Lib.hid hln
      have HCM : Hid ((Lib.cut D [10]).2.1 = m) := by rw [hc]; exact rfl
      clear hc hc2 hln HCUT HRD
      go_wp2_with fail
      refine HC1.out.mono ?_
      rintro e w1 ⟨rfl, hb1⟩
      replace HO := Lib.hid (HO.out.next hb1)
      go_wp2_with fail
      refine (HC2.out w1 HO.out.bel).mono ?_
      rintro e w2 ⟨rfl, hb2⟩
      replace HO := Lib.hid (HO.out.next hb2)
      clear hb1 hb2 HC1 HC2
      unfold RetNo at HR
      go_wp2_with fail
      refine (HR.out w2 HO.out.bel).mono ?_
      rintro e w3 ⟨x, T, c, rfl, hxx, hwt, htl, hb3⟩
      have HX := Lib.hid hxx
      have HWT := Lib.hid hwt
      have HB3 := Lib.hid hb3
      clear hxx hwt hb3 HR
      have hD1 : (D == []) = false := by simpa using hD0
      cases hR : rdN (mkL nm) (mkL ow) with
      | none =>
        have HQ := Lib.hid (rn_none_ (rn_none HK.out hD0 (HLN.out.trans hR)))
        simp only [Option.isSome_none]
        have E3 := Lib.hid (ext_trans HO.out.bel HB3.out)
        clear HX HWT HLN hR
        go_wp2
        go_ret2
        rw [HQ.out.1, HQ.out.2]
        exact RetNtK.nil_ false (by first | exact ext_alloc E3.out _ | exact E3.out)
      | some y =>
        obtain rfl := HX.out y hR
        simp only [Option.isSome_some]
        by_cases h40 : rs.length = 40
        · have HQ := Lib.hid (rn_none_ (rn_full HK.out hD0 (by rw [List.length_map]; exact h40)))
          have h41 : ((rs.length : Int) == 40) = true := by simp [h40]
          have E3 := Lib.hid (ext_trans HO.out.bel HB3.out)
          obtain ⟨A, cp, rfl⟩ := own_slice HO.out.row
          clear HX HWT HLN hR h40
          go_wp2
          go_ret2
          rw [HQ.out.1, HQ.out.2]
          exact RetNtK.nil_ false (by first | exact ext_alloc E3.out _ | exact E3.out)
        · have h41 : ((rs.length : Int) == 40) = false := by simp; omega
          have HST := Lib.hid (rn_step HK.out hD0 (HLN.out.trans hR))
          have hz3 : w2.heap.size ≤ w3.heap.size := HB3.out.size
          obtain ⟨A, cp, rfl⟩ := own_slice HO.out.row
          have HO3 := Lib.hid (HO.out.next HB3.out)
          have hown := (HO3.out.row.alloc (.cells #[.string x.name, .int .i64 x.kind, .int .i64 x.num, .int .i64 x.den, .slice T x.terms.length c, .int .i64 x.sp, .int .i64 x.sd, .int .i64 x.sq] 31)).alloc (.cells #[.string x.name, .int .i64 x.kind, .int .i64 x.num, .int .i64 x.den, .slice T x.terms.length c, .int .i64 x.sp, .int .i64 x.sd, .int .i64 x.sq] 31)
          have hhi := HO3.out.hi
          have hnm : x.name = mkL nm := (body_rdN hR).1
          have hfx : x.fits := ⟨by rw [hnm, mkL_size]; unfold maxLen; omega, by unfold maxLen; omega⟩
          have HFX := Lib.hid hfx
          clear HX HLN hR hnm hfx
          go_wp2_with (at_builtin; refine wpList_append_lies _ rfl _ _ 24 rfl w.heap.size 31 ti (ntV ByteArray.empty 0 0 0 none 0 0 0 0 0) 8 88 Tryz.underlying24 HI.out hz0 hz1 hz2 rfl (by decide) _ _ _ rfl hown ⟨w3.heap.size + 1, 0, none⟩ 1 1 (ntC x T c) rfl rfl ?c1 ?c2 (by omega) ?c3 ?c4 ?c5 _ rfl ?_)
          case c1 =>
            intro j u hu
            have := news_rowN (w3.alloc (.cells #[.string x.name, .int .i64 x.kind, .int .i64 x.num, .int .i64 x.den, .slice T x.terms.length c, .int .i64 x.sp, .int .i64 x.sd, .int .i64 x.sq] 31)) 31 (ntC x T c) rfl j u hu
            simpa using this
          case c2 => simp [ntC, Value.oneCell']
          case c3 => unfold maxLen; omega
          case c4 => omega
          case c5 => simp only [World.size_alloc]; omega
          intro g6 cap6 w6 hown3 hgrow hat hlt6
          have HP := Lib.hid (OutNt.push HO.out HB3.out HWT.out (ext_alloc (ext1 _ _) _) hown3 hgrow (by simpa only [World.size_alloc] using hat))
          have HS6 : Hid (rnF (s.size + 1) s.data.toList = (rnF f' m).map (((rs ++ [(⟨x, T, c⟩ : NtR)]).map NtR.x) ++ ·)) := by
            unfold Hid
            rw [List.map_append, HST.out, HCM.out]
            rfl
          have HF6 : Hid (∀ y ∈ (rs ++ [(⟨x, T, c⟩ : NtR)]).map NtR.x, y.fits) := fun y hy => by
            rw [List.map_append] at hy
            rcases List.mem_append.1 hy with hy | hy
            · exact HF.out y hy
            · simp only [List.map_cons, List.map_nil, List.mem_cons, List.not_mem_nil, or_false] at hy
              subst hy
              exact HFX.out
          clear hown3 hgrow hat hlt6 HO HO3 hown HWT HB3 HST
          go_wp2
          go_roundw
          case rel => exact ⟨m, f', _, _, _, rfl, rfl, by omega, by omega, by simp; omega, HS6.out, HF6.out, HP.out⟩
          case measure => simp only [strZ, mkL_size]; omega
end Go.Proofs.YtpnabggpdgjbmaaGreatDoor
