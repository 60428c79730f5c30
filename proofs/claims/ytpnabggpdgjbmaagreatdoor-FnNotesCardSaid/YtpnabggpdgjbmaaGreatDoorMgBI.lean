/- ReadSurd: the reference's walk. No condition but those that each theorem names. -/
import Derived.Test.YtpnabggpdgjbmaaGreatDoorMgBG
import Derived.StillTailTactics
namespace Go.Proofs.YtpnabggpdgjbmaaGreatDoor
open Go.RowKit Go.Sort
theorem rs_cases (s : ByteArray) : ((∀ a b, spB 47 s ≠ [a, b]) ∧ rsO s = none) ∨ ∃ a b, spB 47 s = [a, b] ∧ ((a.size < 2 ∧ rsO s = none) ∨ (∃ h : 2 ≤ a.size, (a[0] ≠ 40 ∧ rsO s = none) ∨ (a[0] = 40 ∧ a[a.size - 1] ≠ 41 ∧ rsO s = none) ∨
    (a[0] = 40 ∧ a[a.size - 1] = 41 ∧ (((∀ u v, spB 114 (midB a) ≠ [u, v]) ∧ rsO s = none) ∨ ∃ u v, spB 114 (midB a) = [u, v] ∧ ((u.size < 1 ∧ rsO s = none) ∨ ∃ h : 1 ≤ u.size, (u[u.size - 1] ≠ 43 ∧ rsO s = none) ∨ (u[u.size - 1] = 43 ∧
      (numK (headB u) = true → numK v = true → numK b = true → surdB (numN (headB u)) (numN v) (numN b) = true → rsO s = some (numN (headB u), numN v, numN b)) ∧ ((numK (headB u) && (numK v && (numK b && surdB (numN (headB u)) (numN v) (numN b)))) = false → rsO s = none))))))) := by
  by_cases h1 : ∃ a b, spB 47 s = [a, b]
  · obtain ⟨a, b, hab⟩ := h1
    refine .inr ⟨a, b, hab, ?_⟩
    have cut : ∀ p d q, sdT p d q = s → ∃ u, 2 ≤ a.size ∧ a.data.toList = 40 :: ((midB a).data.toList ++ [41]) ∧ spB 114 (midB a) = [u, decB d] ∧ u.data.toList = dcL p ++ [43] := fun p d q h => by
      obtain ⟨a', u, e1, e2, e3, e4, e5⟩ := rs_cut h
      have e6 := hab.symm.trans e1
      injection e6 with e6 _
      subst e6
      exact ⟨u, e2, e3, e4, e5⟩
    by_cases h2 : 2 ≤ a.size
    · refine .inr ⟨h2, ?_⟩
      by_cases h3 : a[0] = 40
      · by_cases h4 : a[a.size - 1] = 41
        · refine .inr (.inr ⟨h3, h4, ?_⟩)
          by_cases h5 : ∃ u v, spB 114 (midB a) = [u, v]
          · obtain ⟨u, v, huv⟩ := h5
            refine .inr ⟨u, v, huv, ?_⟩
            have cut2 : ∀ p d q, sdT p d q = s → u.data.toList = dcL p ++ [43] := fun p d q h => by
              obtain ⟨u', _, _, e4, e5⟩ := cut p d q h
              have e6 := huv.symm.trans e4
              injection e6 with e6 _
              subst e6
              exact e5
            by_cases h6 : 1 ≤ u.size
            · refine .inr ⟨h6, ?_⟩
              by_cases h7 : u[u.size - 1] = 43
              · exact .inr ⟨h7, rs_two hab h2 h3 h4 huv h6 h7⟩
              · refine .inl ⟨h7, rsO_no fun p d q _ h => h7 ?_⟩
                have e := (last_list (s := u) h6).symm.trans (cut2 p d q h)
                exact (List.cons.inj (List.append_inj' e rfl).2).1
            · refine .inl ⟨by omega, rsO_no fun p d q _ h => ?_⟩
              have e := cut2 p d q h
              have hz := size_list u
              rw [e] at hz
              simp at hz
              omega
          · exact .inl ⟨fun u v e => h5 ⟨u, v, e⟩, rsO_no fun p d q _ h => by obtain ⟨u, _, _, e, _⟩ := cut p d q h; exact h5 ⟨_, _, e⟩⟩
        · refine .inr (.inl ⟨h3, h4, rsO_no fun p d q _ h => h4 ?_⟩)
          obtain ⟨_, _, e, _⟩ := cut p d q h
          have e2 := (last_list (s := a) (by omega)).symm.trans e
          rw [← List.cons_append] at e2
          exact (List.cons.inj (List.append_inj' e2 rfl).2).1
      · refine .inl ⟨h3, rsO_no fun p d q _ h => h3 ?_⟩
        obtain ⟨_, _, e, _⟩ := cut p d q h
        exact (List.cons.inj ((head_list (s := a) (by omega)).symm.trans e)).1
    · exact .inl ⟨by omega, rsO_no fun p d q _ h => by obtain ⟨_, e, _⟩ := cut p d q h; omega⟩
  · exact .inl ⟨fun a b e => h1 ⟨a, b, e⟩, rsO_no fun p d q _ h => by obtain ⟨a, u, e, _⟩ := rs_cut h; exact h1 ⟨_, _, e⟩⟩
theorem byte_ne {b c : UInt8} {k : Int} (h : b ≠ c) (hk : (c.toNat : Int) = k) : ((b.toNat : Int) != k) = true := by
  rw [bne_iff_ne]
  intro e
  exact h (UInt8.toNat_inj.1 (by omega))
theorem byte_eq {b c : UInt8} {k : Int} (h : b = c) (hk : (c.toNat : Int) = k) : ((b.toNat : Int) != k) = false := by
  rw [h, hk]; simp
set_option maxRecDepth 100000 in
set_option maxHeartbeats 4000000 in
theorem sReadSurd_any (s : ByteArray) (w : World) (hs : s.size ≤ 100000000) :
    Calls Tryz.prog 100 #[.string s] w fun e w' => e = .returned (.tuple #[surdV (rsN s) (rsM s) (rsL s), .bool (rsK s)]) ∧ Below w.heap.size w w' := by
  have HSP := Lib.hid (fun W : World => l01Split_any s 47 47 rfl W (by omega))
  unfold RetStrs at HSP
  have hsz : ∀ x ∈ spB 47 s, x.size ≤ 100000000 := fun x hx => by have := spB_sz hx; omega
  have hct := spB_count 47 s
  have R0 := Lib.hid (BoxV.new w #[.int .i64 0, .int .i64 0, .int .i64 0] 29)
  have E0 := Lib.hid (ext1 w (.cells #[.int .i64 0, .int .i64 0, .int .i64 0] 29))
  unfold surdV
  rcases rs_cases s with ⟨hne, hno⟩ | ⟨a, b, hab, hw⟩
  · have HQ := Lib.hid (rs_none hno)
    obtain ⟨L, hL⟩ : ∃ L, (spB 47 s).length = L := ⟨_, rfl⟩
    have hL2 : ((L : Int) != 2) = true := by
      rw [bne_iff_ne]
      intro e
      have h2 : (spB 47 s).length = 2 := by omega
      match hsp : spB 47 s with
      | [] => rw [hsp] at h2; simp at h2
      | [_] => rw [hsp] at h2; simp at h2
      | [x, y] => exact hne x y hsp
      | _ :: _ :: _ :: _ => rw [hsp] at h2; simp at h2
    rw [hL] at HSP hct
    clear hne hno hsz hL
    go_enter Tryz.func100, Tryz.ntmps100
    go_wp2_with fail
    refine (HSP.out _).mono ?_
    rintro e w1 ⟨A1, c1, rfl, hw1, hb1⟩
    have R1 := Lib.hid (R0.out.next hb1)
    have E1 := Lib.hid (ext_trans E0.out hb1)
    clear hw1 hb1 HSP R0 E0
    go_wp2_with fail
    go_quiet (fail)
    have HD9 : Hid (Below w1.heap.size w1 (w1.drewN nq)) := below_drewNS (Below.refl _ _)
    have E9 : Hid (Below w.heap.size w (w1.drewN nq)) := below_drewNS E1.out
    have R9 : Hid (BoxV w.heap.size [.int .i64 0, .int .i64 0, .int .i64 0] (w1.drewN nq)) := R1.out.next (below_drewNS (Below.refl _ _))
    generalize w1.drewN nq = W9 at *
    have r0 := R9.out.at 0 _ rfl
    have r1 := R9.out.at 1 _ rfl
    have r2 := R9.out.at 2 _ rfl
    have q0 := R9.out.f 0
    have q1 := R9.out.f 1
    have q2 := R9.out.f 2
    go_wp2
    refine bodyPost_ret (v := .tuple #[surdV 0 0 0, .bool false]) (by simp [results, Tryz.results100, go_sem, r0, r1, r2]; done) rfl ?_
    rw [HQ.out.1, HQ.out.2.1, HQ.out.2.2.1, HQ.out.2.2.2]
    exact ⟨rfl, ext_set (ext_set (ext_set E9.out (Nat.le_refl _) _) (Nat.le_refl _) _) (Nat.le_refl _) _⟩
  · have ha := hsz a (by rw [hab]; simp)
    have hb := hsz b (by rw [hab]; simp)
    have HB := Lib.hid (fun W : World => l01Number_any b W (by unfold maxLen; omega))
    rw [hab] at HSP
    simp only [List.length_cons, List.length_nil, Nat.zero_add] at HSP
    clear hsz hct hab
    go_enter Tryz.func100, Tryz.ntmps100
    go_wp2_with fail
    refine (HSP.out _).mono ?_
    rintro e w1 ⟨A1, c1, rfl, hw1, hb1⟩
    have R1 := Lib.hid (R0.out.next hb1)
    have E1 := Lib.hid (ext_trans E0.out hb1)
    obtain ⟨g1, o1, rfl, _, hgl, hcc, _⟩ := hw1 (by simp)
    have HCA : Hid (∀ W, Below w1.heap.size w1 W → W.cell? ⟨g1, o1, none⟩ = some (.string a) ∧ W.cell? ⟨g1, o1 + 1, none⟩ = some (.string b)) := fun W hb => ⟨(hb.cell (p := ⟨g1, o1, none⟩) hgl).trans (hcc 0 a rfl), (hb.cell (p := ⟨g1, o1 + 1, none⟩) hgl).trans (hcc 1 b rfl)⟩
    clear hw1 hb1 HSP R0 E0 hcc
    obtain ⟨ca, _⟩ := HCA.out w1 (Below.refl _ _)
    go_upto_region 2 with fail
    rcases hw with ⟨h2, hno⟩ | ⟨h2, hw⟩
    · have HQ := Lib.hid (rs_none hno)
      have i1 : (a.size : Int) < 2 := by omega
      clear h2 hno
      go_wp2_with fail
      go_quiet (fail)
      have HD9 : Hid (Below w1.heap.size w1 (w1.drewN nq)) := below_drewNS (Below.refl _ _)
      have E9 : Hid (Below w.heap.size w (w1.drewN nq)) := below_drewNS E1.out
      have R9 : Hid (BoxV w.heap.size [.int .i64 0, .int .i64 0, .int .i64 0] (w1.drewN nq)) := R1.out.next (below_drewNS (Below.refl _ _))
      generalize w1.drewN nq = W9 at *
      have r0 := R9.out.at 0 _ rfl
      have r1 := R9.out.at 1 _ rfl
      have r2 := R9.out.at 2 _ rfl
      have q0 := R9.out.f 0
      have q1 := R9.out.f 1
      have q2 := R9.out.f 2
      go_wp2
      refine bodyPost_ret (v := .tuple #[surdV 0 0 0, .bool false]) (by simp [results, Tryz.results100, go_sem, r0, r1, r2]; done) rfl ?_
      rw [HQ.out.1, HQ.out.2.1, HQ.out.2.2.1, HQ.out.2.2.2]
      exact ⟨rfl, ext_set (ext_set (ext_set E9.out (Nat.le_refl _) _) (Nat.le_refl _) _) (Nat.le_refl _) _⟩
    have i1 : decide ((a.size : Int) < 2) = false := decide_eq_false (by omega)
    have i2 : 0 < a.size := by omega
    obtain ⟨m, hm⟩ : ∃ m : Nat, a.size - 1 = m := ⟨_, rfl⟩
    have hmi : (a.size : Int) - 1 = (m : Int) := by omega
    have hmw : IntKind.i64.wrap (m : Int) = (m : Int) := IntWalk.i64_in _ (by omega)
    have j0 : (0 : Int) ≤ (m : Int) := by omega
    have j1 : (m : Int) < (a.size : Int) := by omega
    have j2 : m < a.size := by omega
    have j3 : (1 : Int) ≤ (m : Int) := by omega
    have j4 : (m : Int) ≤ (a.size : Int) := by omega
    have j5 : 1 ≤ m := by omega
    have j6 : m ≤ a.size := by omega
    have hmid : a.extract 1 m = midB a := by unfold midB; rw [hm]
    rcases hw with ⟨h3, hno⟩ | ⟨h3, h4, hno⟩ | ⟨h3, h4, hw⟩
    · have HQ := Lib.hid (rs_none hno)
      have b0 : (((a[0]).toNat : Int) != 40) = true := byte_ne h3 rfl
      clear h2 h3 hno hm
      go_wp2_with fail
      go_quiet (fail)
      have HD9 : Hid (Below w1.heap.size w1 (w1.drewN nq)) := below_drewNS (Below.refl _ _)
      have E9 : Hid (Below w.heap.size w (w1.drewN nq)) := below_drewNS E1.out
      have R9 : Hid (BoxV w.heap.size [.int .i64 0, .int .i64 0, .int .i64 0] (w1.drewN nq)) := R1.out.next (below_drewNS (Below.refl _ _))
      generalize w1.drewN nq = W9 at *
      have r0 := R9.out.at 0 _ rfl
      have r1 := R9.out.at 1 _ rfl
      have r2 := R9.out.at 2 _ rfl
      have q0 := R9.out.f 0
      have q1 := R9.out.f 1
      have q2 := R9.out.f 2
      go_wp2
      refine bodyPost_ret (v := .tuple #[surdV 0 0 0, .bool false]) (by simp [results, Tryz.results100, go_sem, r0, r1, r2]; done) rfl ?_
      rw [HQ.out.1, HQ.out.2.1, HQ.out.2.2.1, HQ.out.2.2.2]
      exact ⟨rfl, ext_set (ext_set (ext_set E9.out (Nat.le_refl _) _) (Nat.le_refl _) _) (Nat.le_refl _) _⟩
    · have HQ := Lib.hid (rs_none hno)
      have b0 : (((a[0]).toNat : Int) != 40) = false := byte_eq h3 rfl
      have b1 : (((a[m]'j2).toNat : Int) != 41) = true := byte_ne (by subst hm; exact h4) rfl
      clear h3 h4 hno hm
      go_wp2_with fail
      go_quiet (fail)
      have HD9 : Hid (Below w1.heap.size w1 (w1.drewN nq)) := below_drewNS (Below.refl _ _)
      have E9 : Hid (Below w.heap.size w (w1.drewN nq)) := below_drewNS E1.out
      have R9 : Hid (BoxV w.heap.size [.int .i64 0, .int .i64 0, .int .i64 0] (w1.drewN nq)) := R1.out.next (below_drewNS (Below.refl _ _))
      generalize w1.drewN nq = W9 at *
      have r0 := R9.out.at 0 _ rfl
      have r1 := R9.out.at 1 _ rfl
      have r2 := R9.out.at 2 _ rfl
      have q0 := R9.out.f 0
      have q1 := R9.out.f 1
      have q2 := R9.out.f 2
      go_wp2
      refine bodyPost_ret (v := .tuple #[surdV 0 0 0, .bool false]) (by simp [results, Tryz.results100, go_sem, r0, r1, r2]; done) rfl ?_
      rw [HQ.out.1, HQ.out.2.1, HQ.out.2.2.1, HQ.out.2.2.2]
      exact ⟨rfl, ext_set (ext_set (ext_set E9.out (Nat.le_refl _) _) (Nat.le_refl _) _) (Nat.le_refl _) _⟩
    have b0 : (((a[0]).toNat : Int) != 40) = false := byte_eq h3 rfl
    have b1 : (((a[m]'j2).toNat : Int) != 41) = false := byte_eq (by subst hm; exact h4) rfl
    have HMS : Hid (∀ W, Calls Tryz.prog 55 #[.string (a.extract 1 m), .int .u8 114] W fun e w' => ∃ A c, e = .returned (.slice A (spB 114 (midB a)).length c) ∧ Wr Value.string w' W.heap.size A (spB 114 (midB a)) ∧ Below W.heap.size W w') := fun W => by
      rw [hmid]
      exact l01Split_any (midB a) 114 114 rfl W (by unfold midB; rw [ByteArray.size_extract]; omega)
    have hmsz : ∀ x ∈ spB 114 (midB a), x.size ≤ 100000000 := fun x hx => by have := spB_sz hx; unfold midB at this; rw [ByteArray.size_extract] at this; omega
    have hmct := spB_count 114 (midB a)
    have hmz : (midB a).size ≤ 100000000 := by unfold midB; rw [ByteArray.size_extract]; omega
    clear h3 h4 hm hmid
    go_wp2_with fail
    go_quiet (fail)
    have HD9 : Hid (Below w1.heap.size w1 (w1.drewN nq)) := below_drewNS (Below.refl _ _)
    have E9 : Hid (Below w.heap.size w (w1.drewN nq)) := below_drewNS E1.out
    have R9 : Hid (BoxV w.heap.size [.int .i64 0, .int .i64 0, .int .i64 0] (w1.drewN nq)) := R1.out.next (below_drewNS (Below.refl _ _))
    generalize w1.drewN nq = W9 at *
    have HCA2 : Hid (∀ W, Below W9.heap.size W9 W → W.cell? ⟨g1, o1, none⟩ = some (.string a) ∧ W.cell? ⟨g1, o1 + 1, none⟩ = some (.string b)) := fun W hb => HCA.out W (ext_trans HD9.out hb)
    clear R1 E1 HCA ca HD9
    obtain ⟨ca, _⟩ := HCA2.out W9 (Below.refl _ _)
    go_upto_region 4 with fail
    refine wp_region_still_tail 9 (by kernel_rfl) (by kernel_rfl) ?_
    simp only [List.take_succ_cons, List.take_zero, List.drop_succ_cons, List.drop_zero]
    repeat (first | still_step | (fail))
    refine wpStill_nil ?_
    change wpList _ _ _ _ _ (World.drew _)
    go_wp2_with fail
    refine (HMS.out _).mono ?_
    rintro e w2 ⟨A2, c2, rfl, hw2, hb2⟩
    have R2 := Lib.hid (R9.out.next (ext_trans (ext_drew (Below.refl _ _)) hb2))
    have E2 := Lib.hid (ext_trans (ext_drew E9.out) hb2)
    have HCB : Hid (∀ W, Below w2.heap.size w2 W → W.cell? ⟨g1, o1 + 1, none⟩ = some (.string b)) := fun W hb => (HCA2.out W (ext_trans (ext_trans (ext_drew (Below.refl _ _)) hb2) hb)).2
    clear R9 E9 HCA2 ca hb2 HMS
    rcases hw with ⟨hne, hno⟩ | ⟨u, v, huv, hw⟩
    · have HQ := Lib.hid (rs_none hno)
      obtain ⟨L, hL⟩ : ∃ L, (spB 114 (midB a)).length = L := ⟨_, rfl⟩
      have hL2 : ((L : Int) != 2) = true := by
        rw [bne_iff_ne]
        intro e
        have h2 : (spB 114 (midB a)).length = 2 := by omega
        match hsp : spB 114 (midB a) with
        | [] => rw [hsp] at h2; simp at h2
        | [_] => rw [hsp] at h2; simp at h2
        | [x, y] => exact hne x y hsp
        | _ :: _ :: _ :: _ => rw [hsp] at h2; simp at h2
      rw [hL] at hmct ⊢
      clear hne hno hmsz hL hw2
      go_upto_region 5 with fail
      go_quiet (fail)
      have HD9 : Hid (Below w2.heap.size w2 (w2.drewN nq)) := below_drewNS (Below.refl _ _)
      have E9 : Hid (Below w.heap.size w (w2.drewN nq)) := below_drewNS E2.out
      have R9 : Hid (BoxV w.heap.size [.int .i64 0, .int .i64 0, .int .i64 0] (w2.drewN nq)) := R2.out.next (below_drewNS (Below.refl _ _))
      generalize w2.drewN nq = W9 at *
      have r0 := R9.out.at 0 _ rfl
      have r1 := R9.out.at 1 _ rfl
      have r2 := R9.out.at 2 _ rfl
      have q0 := R9.out.f 0
      have q1 := R9.out.f 1
      have q2 := R9.out.f 2
      go_wp2
      refine bodyPost_ret (v := .tuple #[surdV 0 0 0, .bool false]) (by simp [results, Tryz.results100, go_sem, r0, r1, r2]; done) rfl ?_
      rw [HQ.out.1, HQ.out.2.1, HQ.out.2.2.1, HQ.out.2.2.2]
      exact ⟨rfl, ext_set (ext_set (ext_set E9.out (Nat.le_refl _) _) (Nat.le_refl _) _) (Nat.le_refl _) _⟩
    have hu := hmsz u (by rw [huv]; simp)
    have hv := hmsz v (by rw [huv]; simp)
    have HV := Lib.hid (fun W : World => l01Number_any v W (by unfold maxLen; omega))
    rw [huv] at hw2 ⊢
    simp only [List.length_cons, List.length_nil, Nat.zero_add]
    obtain ⟨g2, o2, rfl, _, hgl2, hcc2, _⟩ := hw2 (by simp)
    have HCU : Hid (∀ W, Below w2.heap.size w2 W → W.cell? ⟨g2, o2, none⟩ = some (.string u) ∧ W.cell? ⟨g2, o2 + 1, none⟩ = some (.string v)) := fun W hb => ⟨(hb.cell (p := ⟨g2, o2, none⟩) hgl2).trans (hcc2 0 u rfl), (hb.cell (p := ⟨g2, o2 + 1, none⟩) hgl2).trans (hcc2 1 v rfl)⟩
    clear hw2 hcc2 hmsz hmct huv
    obtain ⟨cu, _⟩ := HCU.out w2 (Below.refl _ _)
    go_upto_region 5 with fail
    rcases hw with ⟨h5, hno⟩ | ⟨h5, hw⟩
    · have HQ := Lib.hid (rs_none hno)
      have k1 : decide ((u.size : Int) < 1) = true := decide_eq_true (by omega)
      clear h5 hno
      go_quiet (fail)
      have HD9 : Hid (Below w2.heap.size w2 (w2.drewN nq)) := below_drewNS (Below.refl _ _)
      have E9 : Hid (Below w.heap.size w (w2.drewN nq)) := below_drewNS E2.out
      have R9 : Hid (BoxV w.heap.size [.int .i64 0, .int .i64 0, .int .i64 0] (w2.drewN nq)) := R2.out.next (below_drewNS (Below.refl _ _))
      generalize w2.drewN nq = W9 at *
      have r0 := R9.out.at 0 _ rfl
      have r1 := R9.out.at 1 _ rfl
      have r2 := R9.out.at 2 _ rfl
      have q0 := R9.out.f 0
      have q1 := R9.out.f 1
      have q2 := R9.out.f 2
      go_wp2
      refine bodyPost_ret (v := .tuple #[surdV 0 0 0, .bool false]) (by simp [results, Tryz.results100, go_sem, r0, r1, r2]; done) rfl ?_
      rw [HQ.out.1, HQ.out.2.1, HQ.out.2.2.1, HQ.out.2.2.2]
      exact ⟨rfl, ext_set (ext_set (ext_set E9.out (Nat.le_refl _) _) (Nat.le_refl _) _) (Nat.le_refl _) _⟩
    have k1 : decide ((u.size : Int) < 1) = false := decide_eq_false (by omega)
    have k2 : 0 < u.size := by omega
    obtain ⟨n, hn⟩ : ∃ n : Nat, u.size - 1 = n := ⟨_, rfl⟩
    have hni : (u.size : Int) - 1 = (n : Int) := by omega
    have hnw : IntKind.i64.wrap (n : Int) = (n : Int) := IntWalk.i64_in _ (by omega)
    have n0 : (0 : Int) ≤ (n : Int) := by omega
    have n1 : (n : Int) < (u.size : Int) := by omega
    have n2 : n < u.size := by omega
    have n4 : (n : Int) ≤ (u.size : Int) := by omega
    have n6 : n ≤ u.size := by omega
    have hhead : u.extract 0 n = headB u := by unfold headB; rw [hn]
    rcases hw with ⟨h6, hno⟩ | ⟨h6, hF1, hF0⟩
    · have HQ := Lib.hid (rs_none hno)
      have b2 : (((u[n]'n2).toNat : Int) != 43) = true := byte_ne (by subst hn; exact h6) rfl
      clear h6 hno hn hhead
      go_quiet (fail)
      have HD9 : Hid (Below w2.heap.size w2 (w2.drewN nq)) := below_drewNS (Below.refl _ _)
      have E9 : Hid (Below w.heap.size w (w2.drewN nq)) := below_drewNS E2.out
      have R9 : Hid (BoxV w.heap.size [.int .i64 0, .int .i64 0, .int .i64 0] (w2.drewN nq)) := R2.out.next (below_drewNS (Below.refl _ _))
      generalize w2.drewN nq = W9 at *
      have r0 := R9.out.at 0 _ rfl
      have r1 := R9.out.at 1 _ rfl
      have r2 := R9.out.at 2 _ rfl
      have q0 := R9.out.f 0
      have q1 := R9.out.f 1
      have q2 := R9.out.f 2
      go_wp2
      refine bodyPost_ret (v := .tuple #[surdV 0 0 0, .bool false]) (by simp [results, Tryz.results100, go_sem, r0, r1, r2]; done) rfl ?_
      rw [HQ.out.1, HQ.out.2.1, HQ.out.2.2.1, HQ.out.2.2.2]
      exact ⟨rfl, ext_set (ext_set (ext_set E9.out (Nat.le_refl _) _) (Nat.le_refl _) _) (Nat.le_refl _) _⟩
    have b2 : (((u[n]'n2).toNat : Int) != 43) = false := byte_eq (by subst hn; exact h6) rfl
    have HU : Hid (∀ W, Calls Tryz.prog 141 #[.string (u.extract 0 n)] W fun e w' => e = .returned (.tuple #[.int .i64 (numN (headB u)), .bool (numK (headB u))]) ∧ Below W.heap.size W w') := fun W => by
      rw [hhead]
      exact l01Number_any (headB u) W (by unfold headB; rw [ByteArray.size_extract]; unfold maxLen; omega)
    have HF1 := Lib.hid hF1
    have HF0 := Lib.hid hF0
    clear h6 hn hhead hF1 hF0
    go_quiet (fail)
    have HD9 : Hid (Below w2.heap.size w2 (w2.drewN nq)) := below_drewNS (Below.refl _ _)
    have E9 : Hid (Below w.heap.size w (w2.drewN nq)) := below_drewNS E2.out
    have R9 : Hid (BoxV w.heap.size [.int .i64 0, .int .i64 0, .int .i64 0] (w2.drewN nq)) := R2.out.next (below_drewNS (Below.refl _ _))
    generalize w2.drewN nq = W9 at *
    have HCU2 : Hid (∀ W, Below W9.heap.size W9 W → W.cell? ⟨g2, o2, none⟩ = some (.string u) ∧ W.cell? ⟨g2, o2 + 1, none⟩ = some (.string v)) := fun W hb => HCU.out W (ext_trans HD9.out hb)
    have HCB2 : Hid (∀ W, Below W9.heap.size W9 W → W.cell? ⟨g1, o1 + 1, none⟩ = some (.string b)) := fun W hb => HCB.out W (ext_trans HD9.out hb)
    clear R2 E2 HCU HCB cu HD9
    obtain ⟨cu, _⟩ := HCU2.out W9 (Below.refl _ _)
    have cu' : ∀ x os, (grow (redrawn W9 x) os).cell? ⟨g2, o2, none⟩ = some (.string u) := fun x os => cell_regrown cu x os
    go_upto_region 7 with fail
    clear cu
    refine wp_region_quiet_below (by kernel_rfl) (by kernel_rfl) ?_
    repeat (first | go_big_quiet_step ((with_reducible exact Calls.regrown_of (HU.out _))) | quiet_step ((with_reducible exact Calls.regrown_of (HU.out _))))
    refine wpQuiet_nil ?_
    intro _ hw'
    obtain ⟨⟨dq, oq⟩, hw''⟩ := hw'
    subst hw''
    obtain ⟨w3, hW3⟩ : ∃ Wq, Wq = grow (redrawn W9 dq) oq := ⟨_, rfl⟩
    have hb3 : Below W9.heap.size W9 w3 := by rw [hW3]; exact below_regrown _ _ _
    rw [← hW3]
    clear hW3
    obtain ⟨hc3, hf3⟩ := bcell hb3
    have hy3 := hb3.size
    clear cu' hc3 hf3 hy3
    have hb3' := hb3
    have R3 := Lib.hid (R9.out.next hb3')
    have E3 := Lib.hid (ext_trans E9.out hb3')
    have cv := (HCU2.out w3 hb3').2
    have HCB3 : Hid (∀ W, Below w3.heap.size w3 W → W.cell? ⟨g1, o1 + 1, none⟩ = some (.string b)) := fun W hb => HCB2.out W (ext_trans hb3' hb)
    clear HU hb3 hb3' HCU2 HCB2 R9 E9
    go_wp2_with fail
    refine (HV.out _).mono ?_
    rintro e w4 ⟨rfl, hb4⟩
    have R4 := Lib.hid (R3.out.next hb4)
    have E4 := Lib.hid (ext_trans E3.out hb4)
    have cb := HCB3.out w4 hb4
    clear HV hb4 HCB3 cv R3 E3
    go_wp2_with fail
    refine (HB.out _).mono ?_
    rintro e w5 ⟨rfl, hb5⟩
    have R5 := Lib.hid (R4.out.next hb5)
    have E5 := Lib.hid (ext_trans E4.out hb5)
    clear HB hb5 cb R4 E4
    go_upto_region 11 with fail
    have B9 := Lib.hid (BoxV.new w5 #[.int .i64 (numN (headB u)), .int .i64 (numN v), .int .i64 (numN b)] 29)
    have E9 := Lib.hid (ext_alloc E5.out (.cells #[.int .i64 (numN (headB u)), .int .i64 (numN v), .int .i64 (numN b)] 29))
    have R9 := Lib.hid (R5.out.alloc (.cells #[.int .i64 (numN (headB u)), .int .i64 (numN v), .int .i64 (numN b)] 29))
    have HOK := Lib.hid (fun W : World => l07Ok_any (numN (headB u)) (numN v) (numN b) W)
    generalize w5.alloc (.cells #[.int .i64 (numN (headB u)), .int .i64 (numN v), .int .i64 (numN b)] 29) = W9 at *
    generalize w5.heap.size = g at *
    generalize surdB (numN (headB u)) (numN v) (numN b) = sb at *
    generalize numN (headB u) = p at *
    generalize numN v = d at *
    generalize numN b = q at *
    generalize numK (headB u) = kp at *
    generalize numK v = kd at *
    generalize numK b = kq at *
    unfold surdV at HOK
    clear E5 R5
    have x0 := B9.out.at 0 _ rfl
    have x1 := B9.out.at 1 _ rfl
    have x2 := B9.out.at 2 _ rfl
    cases kp
    · have HQ := Lib.hid (rs_none (HF0.out (by rfl)))
      clear HF0 HF1
      have r0 := R9.out.at 0 _ rfl
      have r1 := R9.out.at 1 _ rfl
      have r2 := R9.out.at 2 _ rfl
      have q0 := R9.out.f 0
      have q1 := R9.out.f 1
      have q2 := R9.out.f 2
      go_wp2
      refine bodyPost_ret (v := .tuple #[surdV 0 0 0, .bool false]) (by simp [results, Tryz.results100, go_sem, r0, r1, r2]; done) rfl ?_
      rw [HQ.out.1, HQ.out.2.1, HQ.out.2.2.1, HQ.out.2.2.2]
      exact ⟨rfl, ext_set (ext_set (ext_set E9.out (Nat.le_refl _) _) (Nat.le_refl _) _) (Nat.le_refl _) _⟩
    cases kd
    · have HQ := Lib.hid (rs_none (HF0.out (by rfl)))
      clear HF0 HF1
      have r0 := R9.out.at 0 _ rfl
      have r1 := R9.out.at 1 _ rfl
      have r2 := R9.out.at 2 _ rfl
      have q0 := R9.out.f 0
      have q1 := R9.out.f 1
      have q2 := R9.out.f 2
      go_wp2
      refine bodyPost_ret (v := .tuple #[surdV 0 0 0, .bool false]) (by simp [results, Tryz.results100, go_sem, r0, r1, r2]; done) rfl ?_
      rw [HQ.out.1, HQ.out.2.1, HQ.out.2.2.1, HQ.out.2.2.2]
      exact ⟨rfl, ext_set (ext_set (ext_set E9.out (Nat.le_refl _) _) (Nat.le_refl _) _) (Nat.le_refl _) _⟩
    cases kq
    · have HQ := Lib.hid (rs_none (HF0.out (by rfl)))
      clear HF0 HF1
      have r0 := R9.out.at 0 _ rfl
      have r1 := R9.out.at 1 _ rfl
      have r2 := R9.out.at 2 _ rfl
      have q0 := R9.out.f 0
      have q1 := R9.out.f 1
      have q2 := R9.out.f 2
      go_wp2
      refine bodyPost_ret (v := .tuple #[surdV 0 0 0, .bool false]) (by simp [results, Tryz.results100, go_sem, r0, r1, r2]; done) rfl ?_
      rw [HQ.out.1, HQ.out.2.1, HQ.out.2.2.1, HQ.out.2.2.2]
      exact ⟨rfl, ext_set (ext_set (ext_set E9.out (Nat.le_refl _) _) (Nat.le_refl _) _) (Nat.le_refl _) _⟩
    cases sb
    · have HQ := Lib.hid (rs_none (HF0.out (by rfl)))
      clear HF0 HF1
      go_wp2_with fail
      refine (HOK.out _).mono ?_
      rintro e w6 ⟨rfl, hb6⟩
      have R6 := Lib.hid (R9.out.next hb6)
      have E6 := Lib.hid (ext_trans E9.out hb6)
      clear R9 E9 x0 x1 x2
      have R9 := R6
      have E9 := E6
      clear R6 E6
      have r0 := R9.out.at 0 _ rfl
      have r1 := R9.out.at 1 _ rfl
      have r2 := R9.out.at 2 _ rfl
      have q0 := R9.out.f 0
      have q1 := R9.out.f 1
      have q2 := R9.out.f 2
      go_wp2
      refine bodyPost_ret (v := .tuple #[surdV 0 0 0, .bool false]) (by simp [results, Tryz.results100, go_sem, r0, r1, r2]; done) rfl ?_
      rw [HQ.out.1, HQ.out.2.1, HQ.out.2.2.1, HQ.out.2.2.2]
      exact ⟨rfl, ext_set (ext_set (ext_set E9.out (Nat.le_refl _) _) (Nat.le_refl _) _) (Nat.le_refl _) _⟩
    · have HQ := Lib.hid (rs_some (HF1.out rfl rfl rfl rfl))
      clear HF0 HF1
      go_wp2_with fail
      refine (HOK.out _).mono ?_
      rintro e w6 ⟨rfl, hb6⟩
      have R6 := Lib.hid (R9.out.next hb6)
      have B6 := Lib.hid (B9.out.next hb6)
      have E6 := Lib.hid (ext_trans E9.out hb6)
      clear R9 E9 B9 x0 x1 x2
      have x0 := B6.out.at 0 _ rfl
      have x1 := B6.out.at 1 _ rfl
      have x2 := B6.out.at 2 _ rfl
      have r0 := R6.out.at 0 _ rfl
      have r1 := R6.out.at 1 _ rfl
      have r2 := R6.out.at 2 _ rfl
      have q0 := R6.out.f 0
      have q1 := R6.out.f 1
      have q2 := R6.out.f 2
      go_wp2
      refine bodyPost_ret (v := .tuple #[surdV p d q, .bool true]) (by simp [results, Tryz.results100, go_sem, r0, r1, r2]; done) rfl ?_
      rw [HQ.out.1, HQ.out.2.1, HQ.out.2.2.1, HQ.out.2.2.2]
      exact ⟨rfl, ext_set (ext_set (ext_set E6.out (Nat.le_refl _) _) (Nat.le_refl _) _) (Nat.le_refl _) _⟩
end Go.Proofs.YtpnabggpdgjbmaaGreatDoor
