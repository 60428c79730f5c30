/- Parts of the proof, merged: RcI A2vW. No condition but those that each theorem names. -/
import Derived.Test.YtpgkellmhlmjeaaGreatDoorMgAU
import Derived.Deep.DeepCutAuto
import Derived.Test.YtpgkellmhlmjeaaGreatDoorMgAR
namespace Go.Proofs.YtpgkellmhlmjeaaGreatDoor
open Go.RowKit Go.Sort Go.Maps Go.WideMaps
set_option maxRecDepth 100000 in
set_option maxHeartbeats 4000000 in
theorem iReadCert_any (s : ByteArray) (w : World) (hs : s.size ≤ 100000000) (hV : Vars w) :
    Calls Tryz.prog 63 #[.string s] w (RetRc w (rcK (rcW (spB 32 s))) (rcX (rcW (spB 32 s))) (rcW (spB 32 s)).isSome) := by
  have hcnt := spB_count 32 s
  have hszs : ∀ x ∈ spB 32 s, x.size ≤ 1000000000 := fun x hx => by have := spB_sz hx; omega
  have HVV := Lib.hid (fun W (hb : Below w.heap.size w W) => hV.next hb)
  have HSP := Lib.hid (fun (W : World) (hb : Below w.heap.size w W) => Split_at s 32 W (by omega) (HVV.out W hb))
  obtain ⟨w0, r, hwr⟩ := spB_ne 32 s
  have HTX : Hid (∀ ns, numsB r = some ns → bdC (kdW w0) ns = true → ctB (kdW w0) ns = s) := fun ns h1 h2 => rc_text hwr h1 h2
  have HTN : Hid (∀ ns, bdC (kdW w0) ns = false → ctB (kdW w0) ns = ⟨#[]⟩) := fun ns h => by unfold ctB; rw [h]; rfl
  have HS0 : Hid (s.size = 0 → kdW w0 = 0) := fun h => by
    have e : spB 32 s = [⟨#[]⟩] := by
      have hl := size_list s
      unfold spB
      rw [List.eq_nil_of_length_eq_zero (l := s.data.toList) (by omega)]
      rfl
    rw [hwr] at e
    injection e with e1 e2
    subst e1
    decide
  rw [hwr] at HSP hszs hcnt ⊢
  obtain ⟨n, hn⟩ : ∃ n, (w0 :: r).length = n := ⟨_, rfl⟩
  have hnr : r.length + 1 = n := by rw [← hn]; rfl
  have HNR := Lib.hid hnr
  have HSZ : Hid (∀ x ∈ r, x.size ≤ 1000000000) := fun x hx => hszs x (List.mem_cons_of_mem _ hx)
  have HR0 : Hid ((numsB r = none → rcW (w0 :: r) = none) ∧ ∀ ns, numsB r = some ns → (bdC (kdW w0) ns = true → rcW (w0 :: r) = some (kdW w0, ns)) ∧ (bdC (kdW w0) ns = false → rcW (w0 :: r) = none)) := ⟨rcW_none, fun ns h => ⟨rcW_ok h, rcW_bad h⟩⟩
  rw [hn] at HSP hcnt
  have hn1 : 1 ≤ n := by omega
  have hkb := kdW_bd w0
  generalize rcW (w0 :: r) = R at *
  clear hwr hnr hn hszs hV
  have HB0 := Lib.hid (BoxV.new w #[.int .i64 0, .slice none 0 0] 26)
  have E0 := Lib.hid (ext1 w (.cells #[.int .i64 0, .slice none 0 0] 26))
  go_enter Tryz.func63, Tryz.ntmps63
  go_wp2_with fail
  refine (HSP.out _ E0.out).mono ?_
  rintro e w1 ⟨rfl, hws, hb1, hl1⟩
  have hz0 : (w.alloc (.cells #[.int .i64 0, .slice none 0 0] 26)).heap.size = w.heap.size + 1 := by simp
  rw [hz0] at hws hl1
  have HB1 := Lib.hid (HB0.out.next hb1)
  have E1 := Lib.hid (ext_trans E0.out hb1)
  have HWS := Lib.hid hws
  have HRW : Hid (w.heap.size < w1.heap.size) := HB1.out.lt
  clear hws HB0 E0 hb1 HSP hz0
  have HW2 : Hid (∀ W, Below w1.heap.size w1 W → W.cell? ⟨w.heap.size + 1, 0, none⟩ = some (.string w0)) := fun W hb => (hb.cell (p := ⟨w.heap.size + 1, 0, none⟩) hl1).trans (HWS.out 0 w0 rfl)
  have HRR : Hid (∀ A c, Rd Value.string w1 w1.heap.size A r → Calls Tryz.prog 109 #[.slice A r.length c] w1 (RetNum w1 (numsB r))) := fun A c h => readDecimals_any A c r w1 h (by have := HNR.out; omega) HSZ.out (HVV.out w1 E1.out)
  obtain ⟨NO, hNO⟩ : ∃ NO, numsB r = NO := ⟨_, rfl⟩
  have HNL : Hid (∀ ns, NO = some ns → ns.length ≤ 1000000000) := fun ns h => by
    have h2 := nums_len (hNO.trans h)
    have := HNR.out
    omega
  rw [hNO] at HRR HR0
  have HTX2 : Hid (∀ ns, NO = some ns → bdC (kdW w0) ns = true → ctB (kdW w0) ns = s) := fun ns h => HTX.out ns (hNO.trans h)
  clear HTX hNO
  go_upto_region 2 with fail
  go_cut [5, 6] (fun v5 v6 wx => ∃ B c, v5 = .slice B (NO.getD []).length c ∧ v6 = .bool NO.isSome ∧ Wr (Value.int .i64) wx w1.heap.size B (NO.getD []) ∧ Below w1.heap.size w1 wx)
  case first =>
    have hr0 : n - 1 = r.length := by have := HNR.out; omega
    by_cases hn0 : n - 1 = 0
    · have h := HRR.out (some ⟨w.heap.size + 1, 0, none⟩) 0 (fun h => absurd h (by omega))
      rw [← hr0, hn0] at h
      have H := Lib.hid h
      clear hr0 h
      go_wp2_with fail
      refine H.out.mono ?_
      rintro e w2 ⟨B, c, rfl, hw, hb⟩
      go_wp2
      go_meet
      exact ⟨B, c, rfl, rfl, hw, hb⟩
    · have h := HRR.out (some ⟨w.heap.size + 1, 1, none⟩) (n - 1) (fun h => ⟨w.heap.size + 1, 1, rfl, hl1, fun j x hx => by
        rw [Nat.add_comm 1 j]
        exact HWS.out (j + 1) x (by simpa using hx)⟩)
      rw [← hr0] at h
      have H := Lib.hid h
      clear hr0 h
      go_wp2_with fail
      refine H.out.mono ?_
      rintro e w2 ⟨B, c, rfl, hw, hb⟩
      go_wp2
      go_meet
      exact ⟨B, c, rfl, rfl, hw, hb⟩
  case rest =>
    obtain ⟨B, c5, rfl, rfl, hw2, hb2⟩ := hcut
    generalize wc = wA at *
    have HWR := Lib.hid hw2
    have E2 := Lib.hid (ext_trans E1.out hb2)
    have HW3 : Hid (∀ W, Below wA.heap.size wA W → W.cell? ⟨w.heap.size + 1, 0, none⟩ = some (.string w0)) := fun W hb => HW2.out W (ext_trans hb2 hb)
    have hl2 : w.heap.size + 1 < wA.heap.size := Nat.lt_of_lt_of_le hl1 hb2.size
    have HB2 := Lib.hid (HB1.out.next hb2)
    have m0 := HW3.out wA (Below.refl _ _)
    have i1 : (0 : Int) < (n : Int) := by omega
    have hkd : IntKind.i64.wrap (ixW w0 ctWords 0 + 1) = kdW w0 := IntWalk.i64_in _ (by unfold kdW at hkb; omega)
    have i2 : 0 < n := by omega
    have HIX : Hid (∀ V W a, (∀ j x, ctWords[j]? = some x → V.cell? ⟨a, j, none⟩ = some (.string x)) → a < V.heap.size → Below V.heap.size V W → Calls Tryz.prog 110 #[.slice (some ⟨a, 0, none⟩) 6 6, .string w0] W fun e w' => e = .returned (.int .i64 (ixW w0 ctWords 0)) ∧ W = w') := fun V W a h ha hb => indexStr_any (some ⟨a, 0, none⟩) 6 ctWords w0 W (fun _ => ⟨a, 0, rfl, Nat.lt_of_lt_of_le ha hb.size, fun j x hx => by rw [Nat.zero_add]; exact (hb.cell (p := ⟨a, j, none⟩) ha).trans (h j x hx)⟩) (by unfold maxLen; decide)
    generalize ixW w0 ctWords 0 = ix at *
    clear HWS HW2 hw2 hb2 hl1 HRR HSZ HB1 E1
    go_upto_region 3 with fail
    go_cut [7] (fun v wx => ∃ g, v = .pointer (some ⟨g, 0, none⟩) ∧ BoxV g [.int .i64 (kdW w0), .slice B (NO.getD []).length c5] wx ∧ Below wA.heap.size wA wx ∧ wA.heap.size ≤ g)
    case first =>
      go_region_held3 (fun w' => w'.cell? ⟨w.heap.size + 1, 0, none⟩ = some (.string w0))
        (exact HW3.out _ (by repeat (first | exact Below.refl _ _ | assumption | refine ext_set ?_ (by simp <;> omega) _ | refine ext_alloc ?_ _ | refine ext_drew ?_ | refine ext_trans ?_ (by assumption))))
        (first
          | (go_at_call 111; (with_reducible refine (certNames_any _).mono ?_); rintro e w6 ⟨rfl, hws6, hb6⟩; have hlt6 := Lib.lt_of_cell (hws6 0 ⟨#[103, 99, 100]⟩ rfl); have hy6 := hb6.size; (try simp at hy6); (first | have m60 := (hb6.cell (p := ⟨wA.heap.size, 0, none⟩) (by simp)).trans (cell_one _ _ _ _) | skip); (first | have n60 := (hb6.frozen (p := ⟨wA.heap.size, 0, none⟩) (by simp)).trans (World.frozen?_alloc_at _ _ _ _ rfl) | skip); (first | have m61 := (hb6.cell (p := ⟨wA.heap.size, 1, none⟩) (by simp)).trans (cell_one _ _ _ _) | skip); (first | have n61 := (hb6.frozen (p := ⟨wA.heap.size, 1, none⟩) (by simp)).trans (World.frozen?_alloc_at _ _ _ _ rfl) | skip))
          | (go_at_call 110; (with_reducible refine (HIX.out w6 _ _ (by first | exact hws6 | (intro j x hx; simpa using hws6 j x hx)) (by first | exact hlt6 | simpa using hlt6) (by repeat (first | exact Below.refl _ _ | assumption | refine ext_alloc ?_ _ | refine ext_drew ?_ | refine ext_trans ?_ (by assumption)))).mono ?_); rintro e w7 ⟨rfl, rfl⟩))
      all_goals go_wp2_with fail
      all_goals go_meet
      all_goals first
        | exact ⟨w6.heap.size, rfl, BoxV.new w6 #[.int .i64 (kdW w0), .slice B (NO.getD []).length c5] _, ext_alloc (ext_trans (ext_drew (Below.refl _ _)) hb6) _, by omega⟩
        | exact ⟨wA.heap.size, rfl, (((BoxV.new wA.drew #[.int .i64 0, .slice none 0 0] _).next hb6).set 0 _ (by simp)).set 1 _ (by simp), ext_set (ext_set (ext_trans (ext_alloc (ext_drew (Below.refl _ _)) _) hb6) (Nat.le_refl _) _) (Nat.le_refl _) _, Nat.le_refl _⟩
    case rest =>
      obtain ⟨g, rfl, hB, hb3, hg⟩ := hcut
      have HBX := Lib.hid hB
      have HWN : Hid (Wr (Value.int .i64) wc w1.heap.size B (NO.getD [])) := HWR.out.below hb3
      have E3 := Lib.hid (ext_trans E2.out hb3)
      have HRB := Lib.hid (HB2.out.next hb3)
      have hgl := hB.lt
      have hwl : w.heap.size < w1.heap.size := by have := HRW.out; omega
      clear HW3 m0 HIX hB hb3 E2 HWR HB2
      cases NO with
      | none =>
        have HQ := Lib.hid (HR0.out.1 rfl)
        have x0 := HBX.out.at 0 _ rfl
        have x1 := HBX.out.at 1 _ rfl
        have r0 := HRB.out.at 0 _ rfl
        have r1 := HRB.out.at 1 _ rfl
        have q0 := HRB.out.f 0
        have q1 := HRB.out.f 1
        simp only [Option.isSome_none, Option.getD_none, List.length_nil] at x1 ⊢
        clear HR0 HTX2 HNL
        go_wp2
        refine bodyPost_ret (v := .tuple #[certV 0 none 0 0, .bool false]) (by simp [results, Tryz.results63, go_sem, r0, r1]; done) rfl ?_
        rw [HQ.out]
        exact ⟨none, 0, rfl, fun h => absurd h (by simp [rcX]), ext_set (ext_set E3.out (Nat.le_refl _) _) (Nat.le_refl _) _⟩
      | some ns =>
        have HNS := Lib.hid (HNL.out ns rfl)
        have HR1 := Lib.hid (HR0.out.2 ns rfl)
        have HTX3 := Lib.hid (HTX2.out ns rfl)
        have HWN2 : Hid (Wr (Value.int .i64) wc w1.heap.size B ns) := HWN.out
        have HBX2 : Hid (BoxV g [.int .i64 (kdW w0), .slice B ns.length c5] wc) := HBX.out
        have HC := Lib.hid (iCertText_any (kdW w0) B c5 ns wc HWN2.out.rd (by have := HNS.out; unfold maxLen; omega) (HVV.out wc E3.out).tab)
        simp only [Option.isSome_some, Option.getD_some] at ⊢
        clear HWN HBX HNL HR0 HTX2
        have x0 := HBX2.out.at 0 _ rfl
        have x1 := HBX2.out.at 1 _ rfl
        by_cases hs0 : s.size = 0
        · have hk0 := HS0.out hs0
          have HQ : Hid (R = none) := HR1.out.2 (by unfold bdC; rw [hk0]; rfl)
          have z1 : (s.toList == []) = true := by
            have hl := size_list s
            rw [ByteArray.toList_eq, beq_iff_eq]
            exact List.eq_nil_of_length_eq_zero (by omega)
          have r0 := HRB.out.at 0 _ rfl
          have r1 := HRB.out.at 1 _ rfl
          have q0 := HRB.out.f 0
          have q1 := HRB.out.f 1
          generalize kdW w0 = kd at *
          clear HC HTN HTX3 HR1 hk0 hs0
          go_wp2
          refine bodyPost_ret (v := .tuple #[certV 0 none 0 0, .bool false]) (by simp [results, Tryz.results63, go_sem, r0, r1]; done) rfl ?_
          rw [HQ.out]
          exact ⟨none, 0, rfl, fun h => absurd h (by simp [rcX]), ext_set (ext_set E3.out (Nat.le_refl _) _) (Nat.le_refl _) _⟩
        · have z1 : (s.toList == []) = false := by
            have hl := size_list s
            rw [ByteArray.toList_eq, beq_eq_false_iff_ne]
            intro e
            rw [e] at hl
            simp at hl
            omega
          cases hbd : bdC (kdW w0) ns
          · have HQ := Lib.hid (HR1.out.2 hbd)
            have hct := HTN.out ns hbd
            have heq : ((⟨#[]⟩ : ByteArray).toList == s.toList) = false := strNeB (fun e => hs0 (by rw [← e]; rfl))
            rw [← hct] at heq
            generalize ctB (kdW w0) ns = D at *
            generalize kdW w0 = kd at *
            clear HR1 hbd hct HTX3 HTN hs0
            go_wp2_with fail
            refine HC.out.mono ?_
            rintro e w8 ⟨rfl, hb8⟩
            have HRB8 := Lib.hid (HRB.out.next hb8)
            have E8 := Lib.hid (ext_trans E3.out hb8)
            have HX8 := Lib.hid (HBX2.out.next hb8)
            have y0 := HX8.out.at 0 _ rfl
            have y1 := HX8.out.at 1 _ rfl
            have r0 := HRB8.out.at 0 _ rfl
            have r1 := HRB8.out.at 1 _ rfl
            have q0 := HRB8.out.f 0
            have q1 := HRB8.out.f 1
            clear x0 x1
            go_wp2
            refine bodyPost_ret (v := .tuple #[certV 0 none 0 0, .bool false]) (by simp [results, Tryz.results63, go_sem, r0, r1]; done) rfl ?_
            rw [HQ.out]
            exact ⟨none, 0, rfl, fun h => absurd h (by simp [rcX]), ext_set (ext_set E8.out (Nat.le_refl _) _) (Nat.le_refl _) _⟩
          · have HQ := Lib.hid (HR1.out.1 hbd)
            have heq := strEqB (HTX3.out hbd)
            generalize ctB (kdW w0) ns = D at *
            generalize kdW w0 = kd at *
            clear HR1 hbd HTX3 HTN hs0
            go_wp2_with fail
            refine HC.out.mono ?_
            rintro e w8 ⟨rfl, hb8⟩
            have HRB8 := Lib.hid (HRB.out.next hb8)
            have E8 := Lib.hid (ext_trans E3.out hb8)
            have HX8 := Lib.hid (HBX2.out.next hb8)
            have HW8 := Lib.hid (HWN2.out.below hb8)
            have y0 := HX8.out.at 0 _ rfl
            have y1 := HX8.out.at 1 _ rfl
            have r0 := HRB8.out.at 0 _ rfl
            have r1 := HRB8.out.at 1 _ rfl
            have q0 := HRB8.out.f 0
            have q1 := HRB8.out.f 1
            clear x0 x1
            go_wp2
            refine bodyPost_ret (v := .tuple #[certV kd B ns.length c5, .bool true]) (by simp [results, Tryz.results63, go_sem, r0, r1]; done) rfl ?_
            rw [HQ.out]
            exact ⟨B, c5, rfl, ((HW8.out.setLow (by exact hwl) _).setLow (by exact hwl) _).more (by omega), ext_set (ext_set E8.out (Nat.le_refl _) _) (Nat.le_refl _) _⟩
end Go.Proofs.YtpgkellmhlmjeaaGreatDoor
namespace Go.Proofs.YtpgkellmhlmjeaaGreatDoor
open Go.RowKit Go.Sort
set_option maxRecDepth 100000 in
set_option maxHeartbeats 2000000 in
theorem a2Proved_any (kk : Int) (A : Option Addr) (c : Nat) (xs : List Int) (w : World) (hx : RdC w w.heap.size A c xs) (h : ccB kk xs = true) (hV : Vars w) :
    Calls Tryz.prog 26 #[certV kk A xs.length c, .int .i64 kk] w fun e w' => e = .returned (.bool true) ∧ Below w.heap.size w w' := by
  have hbd : bdC kk xs = true := by
    unfold ccB at h
    rw [Bool.and_eq_true] at h
    exact h.1
  obtain ⟨hrc, hsz⟩ := rc_back hbd
  have hnb := hbd
  unfold bdC at hnb
  rw [Bool.and_eq_true] at hnb
  obtain ⟨hl, _⟩ := nbB_all hnb.2
  clear hnb
  have hm : xs.length ≤ maxLen := by unfold maxLen; omega
  have HX : Hid (∀ W, Below w.heap.size w W → RdC W W.heap.size A c xs) := fun W hb => ⟨(hx.1.below hb).more hb.size, hx.2⟩
  have HVV : Hid (∀ W, Below w.heap.size w W → Vars W) := fun W hb => hV.next hb
  have HT : Hid (∀ W, Below w.heap.size w W → Calls Tryz.prog 64 #[certV kk A xs.length c] W fun e w' => e = .returned (.string (ctB kk xs)) ∧ Below W.heap.size W w') := fun W hb => iCertText_any kk A c xs W (HX.out W hb).1 hm (HVV.out W hb).tab
  have HR : Hid (∀ W, Below w.heap.size w W → Calls Tryz.prog 63 #[.string (ctB kk xs)] W (RetRc W kk xs true)) := fun W hb => by
    have k := iReadCert_any (ctB kk xs) W (by omega) (HVV.out W hb)
    rw [hrc] at k
    exact k
  have HC : Hid (∀ W, Below w.heap.size w W → Calls Tryz.prog 8 #[certV kk A xs.length c] W fun e w' => e = .returned (.bool true) ∧ Below W.heap.size W w') := fun W hb => by
    have k := sCheckCertificate_any kk A c xs W (HX.out W hb) hm
    rw [h] at k
    exact k
  have HS : Hid (∀ (W : World) (B : Option Addr) (d : Nat), Below w.heap.size w W → Rd (Value.int .i64) W W.heap.size B xs → Calls Tryz.prog 65 #[certV kk B xs.length d, certV kk A xs.length c] W fun e w' => e = .returned (.bool true) ∧ Below W.heap.size W w') := fun W B d hb hr => by
    have k := sSameCertificate_any kk kk B A d c xs xs W hr (HX.out W hb).1 hm hm
    simpa using k
  have HB := Lib.hid (BoxV.new w #[.int .i64 kk, .slice A xs.length c] 26)
  have HE := Lib.hid (ext1 w (.cells #[.int .i64 kk, .slice A xs.length c] 26))
  generalize ctB kk xs = s at *
  clear hx h hV hbd hrc hsz hl hm HX HVV
  unfold certV at *
  go_enter Tryz.func26, Tryz.ntmps26
  go_wp2_with fail
  generalize w.alloc (.cells #[.int .i64 kk, .slice A xs.length c] 26) = W0 at *
  refine (HT.out _ HE.out).mono ?_
  rintro e w1 ⟨rfl, hb⟩
  have HB := Lib.hid (HB.out.next hb)
  have HE := Lib.hid (ext_trans HE.out hb)
  clear hb HT
  go_wp2_with fail
  unfold RetRc at HR
  refine (HR.out _ HE.out).mono ?_
  rintro e w2 ⟨B, d, rfl, hw, hb⟩
  have HB := Lib.hid (HB.out.next hb)
  have HE := Lib.hid (ext_trans HE.out hb)
  have HD := Lib.hid (BoxV.new w2 #[.int .i64 kk, .slice B xs.length d] 26)
  have HW := Lib.hid (hw.below (ext1 w2 (.cells #[.int .i64 kk, .slice B xs.length d] 26)))
  have HB := Lib.hid (HB.out.next (ext1 w2 (.cells #[.int .i64 kk, .slice B xs.length d] 26)))
  have HE := Lib.hid (ext_trans HE.out (ext1 w2 (.cells #[.int .i64 kk, .slice B xs.length d] 26)))
  clear hb hw HR
  unfold certV at *
  go_upto_region 2 with fail
  generalize w2.alloc (.cells #[.int .i64 kk, .slice B xs.length d] 26) = W2 at *
  generalize w2.heap.size = h2 at *
  have x0 := HB.out.at 0 _ rfl
  have x1 := HB.out.at 1 _ rfl
  go_wp2_with fail
  refine (HC.out _ HE.out).mono ?_
  rintro e w3 ⟨rfl, hb⟩
  have HB := Lib.hid (HB.out.next hb)
  have HD := Lib.hid (HD.out.next hb)
  have HE := Lib.hid (ext_trans HE.out hb)
  have HW := Lib.hid (HW.out.below hb)
  clear hb x0 x1 HC
  have x0 := HB.out.at 0 _ rfl
  have x1 := HB.out.at 1 _ rfl
  have y0 := HD.out.at 0 _ rfl
  have y1 := HD.out.at 1 _ rfl
  go_wp2_with fail
  refine (HS.out _ _ _ HE.out HW.out.rd).mono ?_
  rintro e w4 ⟨rfl, hb⟩
  have HE := Lib.hid (ext_trans HE.out hb)
  clear hb
  go_wp2
  go_ret
  exact ⟨rfl, HE.out⟩
end Go.Proofs.YtpgkellmhlmjeaaGreatDoor
