/- Certificates of least solutions: the program's walk. No condition but those that each theorem names. -/
import Derived.Test.YtmgfceiomfiknaaDoorCheckBW
import Derived.Test.YtmgfceiomfiknaaDoorConvW
import Derived.Test.YtmgfceiomfiknaaDoorUnitTW
namespace Go.Proofs.YtmgfceiomfiknaaDoor
open Go.RowKit Go.Sort

theorem getD_ofC {xs : List Int} {k : Nat} (h : k < xs.length) : xs[k]? = some (xs.getD k 0) := by
  rw [List.getD_eq_getElem?_getD, List.getElem?_eq_getElem h]; rfl
theorem getD_ofL {L : List Sd} {k : Nat} (h : k < L.length) : L[k]? = some (L.getD k (0, 0, 0)) := by
  rw [List.getD_eq_getElem?_getD, List.getElem?_eq_getElem h]; rfl
theorem drop_get {xs : List Int} {j k : Nat} {x : Int} (h : (xs.drop k)[j]? = some x) : xs[k + j]? = some x := by rwa [List.getElem?_drop] at h
theorem drop_rd {w : World} {b off k B : Nat} {xs : List Int} (hb : b < B) (hc : ∀ j x, xs[j]? = some x → w.cell? ⟨b, off + j, none⟩ = some (Value.int .i64 x)) : Rd (Value.int .i64) w B (some ⟨b, off + k, none⟩) (xs.drop k) := fun _ =>
  ⟨b, off + k, rfl, hb, fun j x hx => by
    have := hc (k + j) x (drop_get hx)
    rwa [← Nat.add_assoc] at this⟩
theorem drop_bd {xs : List Int} {k : Nat} (hb : ∀ x ∈ xs, -1000000000 ≤ x ∧ x ≤ 1000000000) : ∀ x ∈ xs.drop k, bil x := fun x hx => hb x (List.mem_of_mem_drop hx)
theorem surdsBy_none {p d q : Int} {A : Option Addr} {c n : Nat} {ts : List Int} {w : World} (hx : Rd (Value.int .i64) w w.heap.size A ts) (hl : ts.length ≤ 1000) (hn : n = ts.length) (h : along (p, d, q) ts = none) :
    Calls Tryd.prog 92 #[surdV p d q, .slice A n c] w fun e w' => ∃ A5 c5, e = .returned (.tuple #[.slice A5 0 c5, .bool false]) ∧ Below w.heap.size w w' := by
  subst hn
  have := surdsBy_any p d q A c ts w hx hl
  rw [h] at this
  exact this.mono fun _ _ ⟨A5, c5, h1, _, _, h2⟩ => ⟨A5, c5, h1, h2⟩
theorem surdsBy_some {p d q : Int} {A : Option Addr} {c n : Nat} {ts : List Int} {w : World} {L : List Sd} (hx : Rd (Value.int .i64) w w.heap.size A ts) (hl : ts.length ≤ 1000) (hn : n = ts.length) (h : along (p, d, q) ts = some L) (m : Nat) (hm : L.length = m) :
    Calls Tryd.prog 92 #[surdV p d q, .slice A n c] w fun e w' => ∃ A5 c5, e = .returned (.tuple #[.slice A5 m c5, .bool true]) ∧ Wr (Value.int .i64) w' w.heap.size A5 (sdL L) ∧ (m ≤ c5 ∧ c5 ≤ maxLen) ∧ Below w.heap.size w w' := by
  subst hn
  have := surdsBy_any p d q A c ts w hx hl
  rw [h] at this
  subst hm
  exact this
set_option maxRecDepth 100000 in
set_option maxHeartbeats 4000000 in
theorem checkUnit_any (A : Option Addr) (c : Nat) (xs : List Int) (w : World) (hx : RdC w w.heap.size A c xs) (hb : ∀ x ∈ xs, -1000000000 ≤ x ∧ x ≤ 1000000000) (hm : xs.length ≤ 420) :
    Calls Tryd.prog 69 #[.slice A xs.length c] w fun e w' => e = .returned (.bool (unB xs)) ∧ Below w.heap.size w w' := by
  obtain ⟨hx1, hx2, hx3⟩ := hx
  unfold maxLen at hx3
  have HU : Hid (unB xs = (decide (4 ≤ xs.length) && (inR (xs.getD 0 0) 2 10000 && (match along (0, xs.getD 0 0, 1) (xs.drop 3) with
    | none => false
    | some L => midQ L && (lastQ L && (mtxLast (xs.drop 3) == some (xs.getD 1 0, xs.getD 2 0))))))) := rfl
  by_cases h4 : 4 ≤ xs.length
  · rw [decide_eq_true h4, Bool.true_and] at HU
    have d4 : decide ((xs.length : Int) < 4) = false := by simp; omega
    obtain ⟨b, off, rfl, hbl, hc⟩ := hx1 (by omega)
    have c0 := hc 0 _ (getD_ofC (show 0 < xs.length by omega))
    have c1 := hc 1 _ (getD_ofC (show 1 < xs.length by omega))
    have c2 := hc 2 _ (getD_ofC (show 2 < xs.length by omega))
    rw [Nat.add_zero] at c0
    have hd := hb _ (List.mem_of_getElem? (getD_ofC (show 0 < xs.length by omega)))
    have HRD : Hid (∀ W, Below w.heap.size w W → Rd (Value.int .i64) W W.heap.size (some ⟨b, off + 3, none⟩) (xs.drop 3)) := fun W hW => ((drop_rd hbl hc).below hW).more hW.size
    have HCK : Hid (∀ W, Below w.heap.size w W → W.cell? ⟨b, off, none⟩ = some (.int .i64 (xs.getD 0 0)) ∧ W.cell? ⟨b, off + 1, none⟩ = some (.int .i64 (xs.getD 1 0)) ∧ W.cell? ⟨b, off + 2, none⟩ = some (.int .i64 (xs.getD 2 0))) := fun W hW => ⟨(hW.cell (p := ⟨b, off, none⟩) hbl).trans c0, (hW.cell (p := ⟨b, off + 1, none⟩) hbl).trans c1, (hW.cell (p := ⟨b, off + 2, none⟩) hbl).trans c2⟩
    have HDB : Hid (∀ x ∈ xs.drop 3, bil x) := drop_bd hb
    have HLD : Hid (xs.length - 3 = (xs.drop 3).length) := by simp [Hid]
    have hds : (xs.drop 3).length ≤ 1000 := by rw [List.length_drop]; omega
    have j3 : (3 : Int) ≤ (xs.length : Int) := by omega
    have n0 : 0 < xs.length := by omega
    have nc3 : ¬ (c = 3) := by omega
    have n1 : 1 < xs.length := by omega
    have n2 : 2 < xs.length := by omega
    have j3c : (3 : Int) ≤ (c : Int) := by omega
    have jlc : (xs.length : Int) ≤ (c : Int) := by omega
    clear hc hb hx1 c1 c2
    generalize xs.getD 0 0 = d at *
    generalize xs.getD 1 0 = x1 at *
    generalize xs.getD 2 0 = x2 at *
    obtain ⟨D1, D2⟩ := hd
    cases hin : inR d 2 10000
    · rw [hin, Bool.false_and] at HU
      rw [HU.out]
      go_enter Tryd.func69, Tryd.ntmps69
      go_wp2_with (go_at_call 43; (with_reducible refine (within_is hin _).mono ?_); rintro e w' ⟨rfl, rfl⟩)
      go_ret
      exact ⟨rfl, Below.refl _ _⟩
    · rw [hin, Bool.true_and] at HU
      have HIN := Lib.hid hin
      clear hin
      have ED := Lib.hid (ext_drew (Below.refl w.heap.size w))
      have HBB : Hid (Below w.heap.size w w) := Below.refl _ _
      rcases Option.eq_none_or_eq_some (along (0, d, 1) (xs.drop 3)) with hR | ⟨L, hR⟩
      · rw [hR] at HU
        have HSB := Lib.hid (surdsBy_none (c := c - 3) (HRD.out _ ED.out) hds HLD.out hR)
        rw [HU.out]
        unfold surdV at HSB
        clear hR HU
        go_enter Tryd.func69, Tryd.ntmps69
        go_wp2_with (go_at_call 43; (with_reducible refine (within_is HIN.out _).mono ?_); rintro e w' ⟨rfl, rfl⟩)
        go_region_held3 (fun w' => w'.cell? ⟨b, off, none⟩ = some (.int .i64 d))
          (first | exact (HCK.out _ ED.out).1 | exact (HCK.out _ (ext_trans ED.out hb5)).1)
          (first | (go_at_call 92; (with_reducible refine HSB.out.mono ?_); rintro e w5 ⟨A5, c5, rfl, hb5⟩))
        all_goals
          have HB5 := Lib.hid (ext_trans ED.out hb5)
          clear hb5
          go_wp2
          go_ret
          exact ⟨rfl, HB5.out⟩
      · rw [hR] at HU
        have HNS := Lib.hid (noSq_of HIN.out hR)
        have HTP := Lib.hid (along_pos HNS.out hR)
        have hLl := along_len hR
        obtain ⟨m, hLm⟩ : ∃ m, L.length = m + 2 := ⟨xs.length - 4, by rw [hLl, List.length_drop]; omega⟩
        have hml : (xs.drop 3).length = m + 1 := by omega
        have HSB := Lib.hid (surdsBy_some (c := c - 3) (HRD.out _ ED.out) hds HLD.out hR (m + 2) hLm)
        obtain ⟨HC1, HC2⟩ := And.intro (Lib.hid (convs_last HTP.out).1) (Lib.hid (convs_last HTP.out).2)
        have HCV : Hid (∀ W, Below w.heap.size w W → Calls Tryd.prog 93 #[.slice (some ⟨b, off + 3, none⟩) (xs.length - 3) (c - 3)] W (RetCv W (convs (xs.drop 3)))) := fun W hW => by
          have := convergents_any (some ⟨b, off + 3, none⟩) (c - 3) (xs.drop 3) W (HRD.out W hW) (by omega) HDB.out
          rwa [← HLD.out] at this
        have HLM := Lib.hid hLm
        have HML := Lib.hid hml
        have hmb : m ≤ 420 := by rw [List.length_drop] at hml; omega
        unfold surdV at HSB
        clear hR hLl hLm hml hds
        go_enter Tryd.func69, Tryd.ntmps69
        go_wp2_with (go_at_call 43; (with_reducible refine (within_is HIN.out _).mono ?_); rintro e w' ⟨rfl, rfl⟩)
        go_region_held3 (fun w' => w'.cell? ⟨b, off, none⟩ = some (.int .i64 d))
          (first | exact (HCK.out _ ED.out).1 | exact (HCK.out _ (ext_trans ED.out hb5)).1)
          (first | (go_at_call 92; (with_reducible refine HSB.out.mono ?_); rintro e w5 ⟨A5, c5, rfl, hw5, ⟨hc5, hc5m⟩, hb5⟩))
        obtain ⟨b5, off5, rfl, hb5l, hb5h, hcc5, _⟩ := hw5 (by rw [sdL_length, HLM.out]; omega)
        have HB5 := Lib.hid (ext_trans ED.out hb5)
        have HCC := Lib.hid hcc5
        unfold maxLen at hc5m
        clear hb5 hcc5 HSB c0
        have jm1 : (1 : Int) ≤ (m : Int) + 1 := by omega
        have nc5 : ¬ (c5 = 1) := by omega
        have jm2 : (m : Int) + 1 ≤ (c5 : Int) := by omega
        go_wp2_with fail
        go_loopw [39] (fun t wr => ∃ k : Nat, k ≤ m ∧ t = .int .i64 k ∧ Hid (allK (midP L) k = true) ∧ Hid (Below w5.heap.size w5 wr)) (fun t _ => m - (intOf t).toNat)
        case atStart => exact ⟨0, by omega, rfl, rfl, Below.refl _ _⟩
        case round =>
          obtain ⟨k, hk, rfl, HK, HB6⟩ := hrel
          by_cases hlt : k < m
          · obtain ⟨g0, g1, g2⟩ := sdL_get (getD_ofL (show k + 1 < L.length by rw [HLM.out]; omega))
            have y0 := (HB6.out.cell (p := ⟨b5, off5 + (k + 1) * 3, none⟩) hb5h).trans (HCC.out _ _ g0)
            have y1 := (HB6.out.cell (p := ⟨b5, off5 + ((k + 1) * 3 + 1), none⟩) hb5h).trans (HCC.out _ _ g1)
            have y2 := (HB6.out.cell (p := ⟨b5, off5 + ((k + 1) * 3 + 2), none⟩) hb5h).trans (HCC.out _ _ g2)
            rw [show off5 + (k + 1) * 3 = off5 + 3 + k * 3 by omega] at y0
            rw [show off5 + ((k + 1) * 3 + 1) = off5 + 3 + k * 3 + 1 by omega] at y1
            rw [show off5 + ((k + 1) * 3 + 2) = off5 + 3 + k * 3 + 2 by omega] at y2
            have HQ : Hid (midP L k = ((L.getD (k + 1) (0, 0, 0)).2.2 != 1)) := rfl
            have HM : Hid (midP L k = false → midQ L = false) := fun h => allK_false h _ (by rw [HLM.out]; omega)
            have i0 : (0 : Int) ≤ (k : Int) := by omega
            have i1 : (k : Int) < (m : Int) := by omega
            have i2 : (k : Int) < ((m + 2 - 1 - 1 : Nat) : Int) := by omega
            have i3 : k < m + 2 - 1 - 1 := by omega
            clear g0 g1 g2
            generalize (L.getD (k + 1) (0, 0, 0)).1 = s1 at *
            generalize (L.getD (k + 1) (0, 0, 0)).2.1 = s2 at *
            generalize (L.getD (k + 1) (0, 0, 0)).2.2 = s3 at *
            by_cases hq : s3 = 1
            · have q1 : (s3 == 1) = true := by simpa using hq
              have HE : Hid (unB xs = false) := by
                unfold Hid
                rw [HU.out]
                have h1 := HM.out (by rw [HQ.out, hq]; rfl)
                simp only [h1, Bool.false_and]
              clear hq HQ HM
              go_wp2
              go_ret
              exact ⟨ret_bool HE.out.symm, ext_alloc (HB5.out.trans (HB6.out.mono HB5.out.size)) _⟩
            · have q1 : (s3 == 1) = false := by simpa using hq
              have HE := Lib.hid (allK_succ HK.out (show midP L k = true by rw [HQ.out]; simpa using hq))
              clear hq HQ HM
              go_wp2
              go_roundw
              case rel => exact ⟨k + 1, by omega, by go_num, HE.out, HB6.out.alloc HB6.out.size _⟩
              case measure => simp [intOf]; omega
          · have HMQ : Hid (midQ L = true) := by
              have h := HK.out
              unfold Hid midQ
              rw [HLM.out, show m + 2 - 2 = k by omega]
              exact h
            have i1 : ¬ (k : Int) < (m : Int) := by omega
            have E6 := Lib.hid (HB5.out.trans (HB6.out.mono HB5.out.size))
            have HUU : Hid (unB xs = (lastQ L && (mtxLast (xs.drop 3) == some (x1, x2)))) := by
              unfold Hid
              rw [HU.out]
              simp only [HMQ.out, Bool.true_and]
            obtain ⟨g0, g1, g2⟩ := sdL_get (getD_ofL (show m + 1 < L.length by rw [HLM.out]; omega))
            have HCQ : Hid (∀ W, Below wr.heap.size wr W → W.cell? ⟨b5, off5 + (m + 1) * 3 + 2, none⟩ = some (.int .i64 (qS L (m + 1)))) := fun W hW => by
              have h1 := (HB6.out.cell (p := ⟨b5, off5 + ((m + 1) * 3 + 2), none⟩) hb5h).trans (HCC.out _ _ g2)
              rw [← Nat.add_assoc] at h1
              exact (hW.cell (p := ⟨b5, off5 + (m + 1) * 3 + 2, none⟩) (Nat.lt_of_lt_of_le hb5h HB6.out.size)).trans h1
            have HLQ : Hid (lastQ L = (qS L (m + 1) == 1)) := by unfold Hid lastQ; rw [HLM.out]; rfl
            rw [HLQ.out] at HUU
            clear g0 g1 g2 HK HCC HLQ HU
            generalize qS L (m + 1) = ql at *
            have HCW := Lib.hid (HCV.out _ E6.out)
            have q3 := Tryd.eqGuardType57
            have q4 := Tryd.stoodInHeld57
            have i4 : (m : Int) + 1 < (m : Int) + 2 := by omega
            have i5 : m + 1 < m + 2 := by omega
            rcases Option.eq_none_or_eq_some (convs (xs.drop 3)) with hF | ⟨F, hF⟩
            · have HE : Hid (unB xs = false) := by
                have h1 := HC1.out
                rw [hF] at h1
                have h2 : mtxLast (xs.drop 3) = none := by
                  cases h3 : mtxLast (xs.drop 3) with
                  | none => rfl
                  | some _ => rw [h3] at h1; cases h1
                unfold Hid
                rw [HUU.out, h2]
                simp
              rw [hF] at HCW
              clear hF HUU
              go_wp2_with fail
              refine HCW.out.mono ?_
              rintro e w7 ⟨A7, c7, rfl, hw7, hb7⟩
              have k0 : ∀ x os, (grow (redrawn w7 x) os).cell? ⟨b5, off5 + (m + 1) * 3 + 2, none⟩ = some (.int .i64 ql) := cell_regrown (HCQ.out _ hb7)
              have E7 := Lib.hid (ext_trans E6.out hb7)
              clear hb7 hw7
              cases hq : (ql == 1)
              all_goals
                go_wp2_with fail
                refine wp_region_quiet_below (by kernel_rfl) (by kernel_rfl) ?_
                repeat (first | go_big_quiet_step (fail) | quiet_step (fail))
                refine wpQuiet_nil ?_
                intro _ hw'
                obtain ⟨⟨dq, oq⟩, hw''⟩ := hw'
                subst hw''
                go_wp2
                go_ret
                exact ⟨ret_bool HE.out.symm, ext_trans E7.out (below_regrown _ _ _)⟩
            · obtain ⟨hFl, hFm⟩ := HC2.out F hF
              have hF1 : F.length = m + 1 := by rw [hFl, HML.out]
              obtain ⟨⟨f1, f2⟩, hfk⟩ : ∃ f, F[m]? = some f := ⟨_, List.getElem?_eq_getElem (by omega)⟩
              have hmt := hFm m (f1, f2) (by rw [HML.out]) hfk
              rw [hmt] at HUU
              obtain ⟨g0, g1⟩ := frL_get hfk
              rw [hF] at HCW
              unfold RetCv at HCW
              simp only [Option.getD_some, Option.isSome_some, hF1] at HCW
              have HFL : Hid (0 < (frL F).length) := by unfold Hid; rw [frL_length, hF1]; omega
              clear hF hFl hFm hmt hfk hF1
              go_wp2_with fail
              refine HCW.out.mono ?_
              rintro e w7 ⟨A7, c7, rfl, hw7, hb7⟩
              obtain ⟨b7, off7, rfl, _, hb7h, hc7, _⟩ := hw7 HFL.out
              have z0 := hc7 _ _ g0
              have z1 := hc7 _ _ g1
              rw [← Nat.add_assoc] at z1
              have E7 := Lib.hid (ext_trans E6.out hb7)
              have k0 : ∀ x os, (grow (redrawn w7 x) os).cell? ⟨b5, off5 + (m + 1) * 3 + 2, none⟩ = some (.int .i64 ql) := cell_regrown (HCQ.out _ hb7)
              have k1 : ∀ x os, (grow (redrawn w7 x) os).cell? ⟨b7, off7 + m * 2, none⟩ = some (.int .i64 f1) := cell_regrown z0
              have k2 : ∀ x os, (grow (redrawn w7 x) os).cell? ⟨b7, off7 + m * 2 + 1, none⟩ = some (.int .i64 f2) := cell_regrown z1
              have k3 : ∀ x os, (grow (redrawn w7 x) os).cell? ⟨b, off + 1, none⟩ = some (.int .i64 x1) := cell_regrown (HCK.out _ E7.out).2.1
              have k4 : ∀ x os, (grow (redrawn w7 x) os).cell? ⟨b, off + 2, none⟩ = some (.int .i64 x2) := cell_regrown (HCK.out _ E7.out).2.2
              have i6 : (m : Int) < (m : Int) + 1 := by omega
              have i7 : m < m + 1 := by omega
              have w0 : IntKind.i64.wrap ((m : Int) + 2 - 1 - 1) = (m : Int) := by rw [IntWalk.i64_in _ (by omega)]; omega
              have w1 : IntKind.i64.wrap ((m : Int) + 1 - 1) = (m : Int) := by rw [IntWalk.i64_in _ (by omega)]; omega
              have w2 : IntKind.i64.wrap (m : Int) = (m : Int) := IntWalk.i64_in _ (by omega)
              have HV : Hid ((some (f1, f2) == some (x1, x2)) = ((f1 == x1) && (f2 == x2))) := by
                unfold Hid
                rw [Bool.eq_iff_iff]
                simp
              rw [HV.out] at HUU
              clear hb7 hw7 hc7 g0 g1 z0 z1 HCW HFL
              cases hq : (ql == 1)
              · go_wp2_with fail
                refine wp_region_quiet_below (by kernel_rfl) (by kernel_rfl) ?_
                repeat (first | go_big_quiet_step (fail) | quiet_step (fail))
                refine wpQuiet_nil ?_
                intro _ hw'
                obtain ⟨⟨dq, oq⟩, hw''⟩ := hw'
                subst hw''
                go_wp2
                go_ret
                exact ⟨ret_bool (by rw [HUU.out, hq]; rfl), ext_trans E7.out (below_regrown _ _ _)⟩
              · cases he1 : (f1 == x1)
                · go_wp2_with fail
                  refine wp_region_quiet_below (by kernel_rfl) (by kernel_rfl) ?_
                  repeat (first | go_big_quiet_step (fail) | quiet_step (fail))
                  refine wpQuiet_nil ?_
                  intro _ hw'
                  obtain ⟨⟨dq, oq⟩, hw''⟩ := hw'
                  subst hw''
                  go_wp2
                  go_ret
                  exact ⟨ret_bool (by rw [HUU.out, hq, he1]; rfl), ext_trans E7.out (below_regrown _ _ _)⟩
                · cases he2 : (f2 == x2)
                  all_goals
                    go_wp2_with fail
                    refine wp_region_quiet_below (by kernel_rfl) (by kernel_rfl) ?_
                    repeat (first | go_big_quiet_step (fail) | quiet_step (fail))
                    refine wpQuiet_nil ?_
                    intro _ hw'
                    obtain ⟨⟨dq, oq⟩, hw''⟩ := hw'
                    subst hw''
                    go_wp2
                    go_ret
                    exact ⟨ret_bool (by rw [HUU.out, hq, he1, he2]; rfl), ext_trans E7.out (below_regrown _ _ _)⟩
  · have HE : Hid (unB xs = false) := by rw [HU.out, decide_eq_false h4]; rfl
    have d4 : decide ((xs.length : Int) < 4) = true := by simp; omega
    rw [HE.out]
    go_enter Tryd.func69, Tryd.ntmps69
    go_wp2
    go_ret
    exact ⟨rfl, Below.refl _ _⟩
end Go.Proofs.YtmgfceiomfiknaaDoor
