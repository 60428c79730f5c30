/- Parts of the proof, merged: CheckHW ClaimP. No condition but those that each theorem names. -/
import Derived.Test.YtpgkellmhlmjeaaGreatDoorMgAO
import Derived.Test.YtpgkellmhlmjeaaGreatDoorMgAN
import Derived.Test.YtpgkellmhlmjeaaGreatDoorMgAQ
import Derived.Test.YtpgkellmhlmjeaaGreatDoorMgAC
namespace Go.Proofs.YtpgkellmhlmjeaaGreatDoor
open Go.RowKit Go.Sort
/-- The rule of a kind. -/
def ccK (kk : Int) (xs : List Int) : Bool := if kk = 1 then gcB xs else if kk = 2 then roB xs else if kk = 3 then liB xs else if kk = 4 then unB xs else if kk = 5 then peB xs else neB xs
/-- The certificate is accepted. -/
def ccB (kk : Int) (xs : List Int) : Bool := bdC kk xs && ccK kk xs
set_option maxRecDepth 100000 in
set_option maxHeartbeats 2000000 in
theorem iCheckCertificate_any (kk : Int) (A : Option Addr) (c : Nat) (xs : List Int) (w : World) (hx : RdC w w.heap.size A c xs) (hm : xs.length ≤ maxLen) :
    Calls Tryz.prog 7 #[certV kk A xs.length c] w fun e w' => e = .returned (.bool (ccB kk xs)) ∧ Below w.heap.size w w' := by
  have HX : Hid (∀ W, Below w.heap.size w W → RdC W W.heap.size A c xs) := fun W hb => ⟨(hx.1.below hb).more hb.size, hx.2⟩
  have HB : Hid (∀ W, Below w.heap.size w W → Calls Tryz.prog 35 #[certV kk A xs.length c] W fun e w' => e = .returned (.bool (bdC kk xs)) ∧ Below W.heap.size W w') := fun W hb => isBoundedCert_any kk A c xs W (HX.out W hb).1 hm
  have HU : Hid (ccB kk xs = (bdC kk xs && ccK kk xs)) := rfl
  rw [HU.out]
  clear HU hx
  cases hbd : bdC kk xs
  · rw [hbd] at HB
    clear hbd
    unfold certV at *
    go_enter Tryz.func7, Tryz.ntmps7
    go_wp2_with fail
    generalize hW : World.alloc (World.alloc w _) _ = W0
    have E0 : Hid (Below w.heap.size w W0) := by unfold Hid; rw [← hW]; exact ext_alloc (ext1 _ _) _
    have k0 : ∀ x os, (grow (redrawn W0 x) os).cell? ⟨w.heap.size, 0, none⟩ = some (.int .i64 kk) := cell_regrown (by rw [← hW, cell_two_fst]; rfl)
    have k1 : ∀ x os, (grow (redrawn W0 x) os).cell? ⟨w.heap.size, 1, none⟩ = some (.slice A xs.length c) := cell_regrown (by rw [← hW, cell_two_fst]; rfl)
    clear hW
    refine wp_region_quiet_below (by kernel_rfl) (by kernel_rfl) ?_
    repeat (first | go_big_quiet_step ((with_reducible exact Calls.regrown_of (HB.out _ (ext_trans E0.out (below_regrown _ _ _))))) | quiet_step ((with_reducible exact Calls.regrown_of (HB.out _ (ext_trans E0.out (below_regrown _ _ _))))))
    refine wpQuiet_nil ?_
    intro _ hw'
    obtain ⟨⟨dq, oq⟩, hw''⟩ := hw'
    subst hw''
    go_wp2
    go_ret
    exact ⟨rfl, ext_trans E0.out (below_regrown _ _ _)⟩
  · rw [hbd] at HB
    obtain ⟨hk, hn⟩ : inR kk 1 6 = true ∧ nbB xs = true := by unfold bdC at hbd; simpa using hbd
    obtain ⟨hk1, hk2⟩ := inR_true.1 hk
    obtain ⟨hn1, hn2⟩ := nbB_all hn
    have HN := Lib.hid hn2
    have h6 : kk = 1 ∨ kk = 2 ∨ kk = 3 ∨ kk = 4 ∨ kk = 5 ∨ kk = 6 := by omega
    clear hbd hk hn hn2 hk1 hk2
    rw [Bool.true_and]
    rcases h6 with rfl | rfl | rfl | rfl | rfl | rfl
    · have HC : Hid (∀ W, Below w.heap.size w W → Calls Tryz.prog 29 #[.slice A xs.length c] W fun e w' => e = .returned (.bool (ccK (0 + 1) xs)) ∧ Below W.heap.size W w') := fun W hb => checkGcd_any A c xs W (HX.out W hb).1 HN.out hn1
      rw [show (0 + 1 : Int) = _ from rfl] at HC
      simp only [Int.reduceAdd] at HC
      generalize ccK _ xs = R at *
      clear hn1
      unfold certV at *
      go_enter Tryz.func7, Tryz.ntmps7
      go_wp2_with fail
      generalize hW : World.alloc (World.alloc w _) _ = W0
      have E0 : Hid (Below w.heap.size w W0) := by unfold Hid; rw [← hW]; exact ext_alloc (ext1 _ _) _
      have k0 : ∀ x os, (grow (redrawn W0 x) os).cell? ⟨w.heap.size, 0, none⟩ = some (.int .i64 _) := cell_regrown (by rw [← hW, cell_two_fst]; rfl)
      have k1 : ∀ x os, (grow (redrawn W0 x) os).cell? ⟨w.heap.size, 1, none⟩ = some (.slice A xs.length c) := cell_regrown (by rw [← hW, cell_two_fst]; rfl)
      have k2 : ∀ x os, (grow (redrawn W0 x) os).cell? ⟨w.heap.size + 1, 0, none⟩ = some (.func (.func 29) #[] #[]) := cell_regrown (by rw [← hW, cell_two_snd]; rfl)
      clear hW
      refine wp_region_quiet_below (by kernel_rfl) (by kernel_rfl) ?_
      repeat (first | go_big_quiet_step ((first | (with_reducible exact Calls.regrown_of (HB.out _ (ext_trans E0.out (below_regrown _ _ _)))) | (with_reducible exact Calls.regrown_of (HC.out _ (ext_trans E0.out (below_regrown _ _ _)))))) | quiet_step ((first | (with_reducible exact Calls.regrown_of (HB.out _ (ext_trans E0.out (below_regrown _ _ _)))) | (with_reducible exact Calls.regrown_of (HC.out _ (ext_trans E0.out (below_regrown _ _ _)))))))
      refine wpQuiet_nil ?_
      intro _ hw'
      obtain ⟨⟨dq, oq⟩, hw''⟩ := hw'
      subst hw''
      go_wp2
      go_ret
      exact ⟨rfl, ext_trans E0.out (below_regrown _ _ _)⟩
    · have HC : Hid (∀ W, Below w.heap.size w W → Calls Tryz.prog 30 #[.slice A xs.length c] W fun e w' => e = .returned (.bool (ccK (1 + 1) xs)) ∧ Below W.heap.size W w') := fun W hb => checkRoot_any A c xs W (HX.out W hb).1 HN.out hn1
      rw [show (1 + 1 : Int) = _ from rfl] at HC
      simp only [Int.reduceAdd] at HC
      generalize ccK _ xs = R at *
      clear hn1
      unfold certV at *
      go_enter Tryz.func7, Tryz.ntmps7
      go_wp2_with fail
      generalize hW : World.alloc (World.alloc w _) _ = W0
      have E0 : Hid (Below w.heap.size w W0) := by unfold Hid; rw [← hW]; exact ext_alloc (ext1 _ _) _
      have k0 : ∀ x os, (grow (redrawn W0 x) os).cell? ⟨w.heap.size, 0, none⟩ = some (.int .i64 _) := cell_regrown (by rw [← hW, cell_two_fst]; rfl)
      have k1 : ∀ x os, (grow (redrawn W0 x) os).cell? ⟨w.heap.size, 1, none⟩ = some (.slice A xs.length c) := cell_regrown (by rw [← hW, cell_two_fst]; rfl)
      have k2 : ∀ x os, (grow (redrawn W0 x) os).cell? ⟨w.heap.size + 1, 1, none⟩ = some (.func (.func 30) #[] #[]) := cell_regrown (by rw [← hW, cell_two_snd]; rfl)
      clear hW
      refine wp_region_quiet_below (by kernel_rfl) (by kernel_rfl) ?_
      repeat (first | go_big_quiet_step ((first | (with_reducible exact Calls.regrown_of (HB.out _ (ext_trans E0.out (below_regrown _ _ _)))) | (with_reducible exact Calls.regrown_of (HC.out _ (ext_trans E0.out (below_regrown _ _ _)))))) | quiet_step ((first | (with_reducible exact Calls.regrown_of (HB.out _ (ext_trans E0.out (below_regrown _ _ _)))) | (with_reducible exact Calls.regrown_of (HC.out _ (ext_trans E0.out (below_regrown _ _ _)))))))
      refine wpQuiet_nil ?_
      intro _ hw'
      obtain ⟨⟨dq, oq⟩, hw''⟩ := hw'
      subst hw''
      go_wp2
      go_ret
      exact ⟨rfl, ext_trans E0.out (below_regrown _ _ _)⟩
    · have HC : Hid (∀ W, Below w.heap.size w W → Calls Tryz.prog 31 #[.slice A xs.length c] W fun e w' => e = .returned (.bool (ccK (2 + 1) xs)) ∧ Below W.heap.size W w') := fun W hb => checkLinear_any A c xs W (HX.out W hb).1 HN.out hn1
      rw [show (2 + 1 : Int) = _ from rfl] at HC
      simp only [Int.reduceAdd] at HC
      generalize ccK _ xs = R at *
      clear hn1
      unfold certV at *
      go_enter Tryz.func7, Tryz.ntmps7
      go_wp2_with fail
      generalize hW : World.alloc (World.alloc w _) _ = W0
      have E0 : Hid (Below w.heap.size w W0) := by unfold Hid; rw [← hW]; exact ext_alloc (ext1 _ _) _
      have k0 : ∀ x os, (grow (redrawn W0 x) os).cell? ⟨w.heap.size, 0, none⟩ = some (.int .i64 _) := cell_regrown (by rw [← hW, cell_two_fst]; rfl)
      have k1 : ∀ x os, (grow (redrawn W0 x) os).cell? ⟨w.heap.size, 1, none⟩ = some (.slice A xs.length c) := cell_regrown (by rw [← hW, cell_two_fst]; rfl)
      have k2 : ∀ x os, (grow (redrawn W0 x) os).cell? ⟨w.heap.size + 1, 2, none⟩ = some (.func (.func 31) #[] #[]) := cell_regrown (by rw [← hW, cell_two_snd]; rfl)
      clear hW
      refine wp_region_quiet_below (by kernel_rfl) (by kernel_rfl) ?_
      repeat (first | go_big_quiet_step ((first | (with_reducible exact Calls.regrown_of (HB.out _ (ext_trans E0.out (below_regrown _ _ _)))) | (with_reducible exact Calls.regrown_of (HC.out _ (ext_trans E0.out (below_regrown _ _ _)))))) | quiet_step ((first | (with_reducible exact Calls.regrown_of (HB.out _ (ext_trans E0.out (below_regrown _ _ _)))) | (with_reducible exact Calls.regrown_of (HC.out _ (ext_trans E0.out (below_regrown _ _ _)))))))
      refine wpQuiet_nil ?_
      intro _ hw'
      obtain ⟨⟨dq, oq⟩, hw''⟩ := hw'
      subst hw''
      go_wp2
      go_ret
      exact ⟨rfl, ext_trans E0.out (below_regrown _ _ _)⟩
    · have HC : Hid (∀ W, Below w.heap.size w W → Calls Tryz.prog 32 #[.slice A xs.length c] W fun e w' => e = .returned (.bool (ccK (3 + 1) xs)) ∧ Below W.heap.size W w') := fun W hb => checkUnit_any A c xs W (HX.out W hb) HN.out hn1
      rw [show (3 + 1 : Int) = _ from rfl] at HC
      simp only [Int.reduceAdd] at HC
      generalize ccK _ xs = R at *
      clear hn1
      unfold certV at *
      go_enter Tryz.func7, Tryz.ntmps7
      go_wp2_with fail
      generalize hW : World.alloc (World.alloc w _) _ = W0
      have E0 : Hid (Below w.heap.size w W0) := by unfold Hid; rw [← hW]; exact ext_alloc (ext1 _ _) _
      have k0 : ∀ x os, (grow (redrawn W0 x) os).cell? ⟨w.heap.size, 0, none⟩ = some (.int .i64 _) := cell_regrown (by rw [← hW, cell_two_fst]; rfl)
      have k1 : ∀ x os, (grow (redrawn W0 x) os).cell? ⟨w.heap.size, 1, none⟩ = some (.slice A xs.length c) := cell_regrown (by rw [← hW, cell_two_fst]; rfl)
      have k2 : ∀ x os, (grow (redrawn W0 x) os).cell? ⟨w.heap.size + 1, 3, none⟩ = some (.func (.func 32) #[] #[]) := cell_regrown (by rw [← hW, cell_two_snd]; rfl)
      clear hW
      refine wp_region_quiet_below (by kernel_rfl) (by kernel_rfl) ?_
      repeat (first | go_big_quiet_step ((first | (with_reducible exact Calls.regrown_of (HB.out _ (ext_trans E0.out (below_regrown _ _ _)))) | (with_reducible exact Calls.regrown_of (HC.out _ (ext_trans E0.out (below_regrown _ _ _)))))) | quiet_step ((first | (with_reducible exact Calls.regrown_of (HB.out _ (ext_trans E0.out (below_regrown _ _ _)))) | (with_reducible exact Calls.regrown_of (HC.out _ (ext_trans E0.out (below_regrown _ _ _)))))))
      refine wpQuiet_nil ?_
      intro _ hw'
      obtain ⟨⟨dq, oq⟩, hw''⟩ := hw'
      subst hw''
      go_wp2
      go_ret
      exact ⟨rfl, ext_trans E0.out (below_regrown _ _ _)⟩
    · have HC : Hid (∀ W, Below w.heap.size w W → Calls Tryz.prog 33 #[.slice A xs.length c] W fun e w' => e = .returned (.bool (ccK (4 + 1) xs)) ∧ Below W.heap.size W w') := fun W hb => checkPeriod_any A c xs W (HX.out W hb) HN.out hn1
      rw [show (4 + 1 : Int) = _ from rfl] at HC
      simp only [Int.reduceAdd] at HC
      generalize ccK _ xs = R at *
      clear hn1
      unfold certV at *
      go_enter Tryz.func7, Tryz.ntmps7
      go_wp2_with fail
      generalize hW : World.alloc (World.alloc w _) _ = W0
      have E0 : Hid (Below w.heap.size w W0) := by unfold Hid; rw [← hW]; exact ext_alloc (ext1 _ _) _
      have k0 : ∀ x os, (grow (redrawn W0 x) os).cell? ⟨w.heap.size, 0, none⟩ = some (.int .i64 _) := cell_regrown (by rw [← hW, cell_two_fst]; rfl)
      have k1 : ∀ x os, (grow (redrawn W0 x) os).cell? ⟨w.heap.size, 1, none⟩ = some (.slice A xs.length c) := cell_regrown (by rw [← hW, cell_two_fst]; rfl)
      have k2 : ∀ x os, (grow (redrawn W0 x) os).cell? ⟨w.heap.size + 1, 4, none⟩ = some (.func (.func 33) #[] #[]) := cell_regrown (by rw [← hW, cell_two_snd]; rfl)
      clear hW
      refine wp_region_quiet_below (by kernel_rfl) (by kernel_rfl) ?_
      repeat (first | go_big_quiet_step ((first | (with_reducible exact Calls.regrown_of (HB.out _ (ext_trans E0.out (below_regrown _ _ _)))) | (with_reducible exact Calls.regrown_of (HC.out _ (ext_trans E0.out (below_regrown _ _ _)))))) | quiet_step ((first | (with_reducible exact Calls.regrown_of (HB.out _ (ext_trans E0.out (below_regrown _ _ _)))) | (with_reducible exact Calls.regrown_of (HC.out _ (ext_trans E0.out (below_regrown _ _ _)))))))
      refine wpQuiet_nil ?_
      intro _ hw'
      obtain ⟨⟨dq, oq⟩, hw''⟩ := hw'
      subst hw''
      go_wp2
      go_ret
      exact ⟨rfl, ext_trans E0.out (below_regrown _ _ _)⟩
    · have HC : Hid (∀ W, Below w.heap.size w W → Calls Tryz.prog 34 #[.slice A xs.length c] W fun e w' => e = .returned (.bool (ccK (5 + 1) xs)) ∧ Below W.heap.size W w') := fun W hb => checkNearest_any A c xs W (HX.out W hb).1 HN.out hn1
      rw [show (5 + 1 : Int) = _ from rfl] at HC
      simp only [Int.reduceAdd] at HC
      generalize ccK _ xs = R at *
      clear hn1
      unfold certV at *
      go_enter Tryz.func7, Tryz.ntmps7
      go_wp2_with fail
      generalize hW : World.alloc (World.alloc w _) _ = W0
      have E0 : Hid (Below w.heap.size w W0) := by unfold Hid; rw [← hW]; exact ext_alloc (ext1 _ _) _
      have k0 : ∀ x os, (grow (redrawn W0 x) os).cell? ⟨w.heap.size, 0, none⟩ = some (.int .i64 _) := cell_regrown (by rw [← hW, cell_two_fst]; rfl)
      have k1 : ∀ x os, (grow (redrawn W0 x) os).cell? ⟨w.heap.size, 1, none⟩ = some (.slice A xs.length c) := cell_regrown (by rw [← hW, cell_two_fst]; rfl)
      have k2 : ∀ x os, (grow (redrawn W0 x) os).cell? ⟨w.heap.size + 1, 5, none⟩ = some (.func (.func 34) #[] #[]) := cell_regrown (by rw [← hW, cell_two_snd]; rfl)
      clear hW
      refine wp_region_quiet_below (by kernel_rfl) (by kernel_rfl) ?_
      repeat (first | go_big_quiet_step ((first | (with_reducible exact Calls.regrown_of (HB.out _ (ext_trans E0.out (below_regrown _ _ _)))) | (with_reducible exact Calls.regrown_of (HC.out _ (ext_trans E0.out (below_regrown _ _ _)))))) | quiet_step ((first | (with_reducible exact Calls.regrown_of (HB.out _ (ext_trans E0.out (below_regrown _ _ _)))) | (with_reducible exact Calls.regrown_of (HC.out _ (ext_trans E0.out (below_regrown _ _ _)))))))
      refine wpQuiet_nil ?_
      intro _ hw'
      obtain ⟨⟨dq, oq⟩, hw''⟩ := hw'
      subst hw''
      go_wp2
      go_ret
      exact ⟨rfl, ext_trans E0.out (below_regrown _ _ _)⟩
set_option maxRecDepth 100000 in
set_option maxHeartbeats 2000000 in
theorem l26Ok_any (g : Nat) (kk : Int) (A : Option Addr) (c : Nat) (xs : List Int) (w : World) (hx : RdC w w.heap.size A c xs) (hm : xs.length ≤ maxLen) (c0 : w.cell? ⟨g, 0, none⟩ = some (.int .i64 kk)) (c1 : w.cell? ⟨g, 1, none⟩ = some (.slice A xs.length c)) :
    Calls Tryz.prog 36 #[.pointer (some ⟨g, 0, none⟩)] w fun e w' => e = .returned (.bool (ccB kk xs)) ∧ Below w.heap.size w w' := by
  have HX : Hid (RdC w w.heap.size A c xs) := hx
  have HF := Lib.hid (l26Fits_any g A c xs w hx.1 hm c1)
  have EB := Lib.hid (Below.refl w.heap.size w)
  have HU : Hid (ccB kk xs = (nbB xs && (inR kk 1 6 && ccK kk xs))) := by unfold Hid ccB bdC; rw [Bool.and_comm (inR kk 1 6), Bool.and_assoc]
  rw [HU.out]
  clear HU hx
  cases hn : nbB xs
  · rw [hn] at HF
    clear hn
    go_enter Tryz.func36, Tryz.ntmps36
    go_wp2_with (go_at_call 78; (with_reducible refine HF.out.mono ?_); rintro e w' ⟨rfl, rfl⟩)
    go_ret
    exact ⟨rfl, EB.out⟩
  · rw [hn] at HF
    obtain ⟨hn1, hn2⟩ := nbB_all hn
    have HN := Lib.hid hn2
    rw [Bool.true_and]
    clear hn hn2
    by_cases h6 : kk = 1 ∨ kk = 2 ∨ kk = 3 ∨ kk = 4 ∨ kk = 5 ∨ kk = 6
    · rcases h6 with rfl | rfl | rfl | rfl | rfl | rfl
      · have HC : Hid (Calls Tryz.prog 79 #[.slice A xs.length c] w fun e w' => e = .returned (.bool (inR (0 + 1) 1 6 && ccK (0 + 1) xs)) ∧ Below w.heap.size w w') := l26Gcd_any A c xs w HX.out.1 HN.out hn1
        simp only [Int.reduceAdd] at HC
        generalize (inR _ 1 6 && ccK _ xs) = R at *
        clear hn1
        go_enter Tryz.func36, Tryz.ntmps36
        go_wp2_with (go_at_call 78; (with_reducible refine HF.out.mono ?_); rintro e w' ⟨rfl, rfl⟩)
        refine HC.out.mono ?_
        rintro e w1 ⟨rfl, hb⟩
        go_wp2
        go_ret
        exact ⟨rfl, hb⟩
      · have HC : Hid (Calls Tryz.prog 80 #[.slice A xs.length c] w fun e w' => e = .returned (.bool (inR (1 + 1) 1 6 && ccK (1 + 1) xs)) ∧ Below w.heap.size w w') := l26Root_any A c xs w HX.out.1 HN.out hn1
        simp only [Int.reduceAdd] at HC
        generalize (inR _ 1 6 && ccK _ xs) = R at *
        clear hn1
        go_enter Tryz.func36, Tryz.ntmps36
        go_wp2_with (go_at_call 78; (with_reducible refine HF.out.mono ?_); rintro e w' ⟨rfl, rfl⟩)
        refine HC.out.mono ?_
        rintro e w1 ⟨rfl, hb⟩
        go_wp2
        go_ret
        exact ⟨rfl, hb⟩
      · have HC : Hid (Calls Tryz.prog 81 #[.slice A xs.length c] w fun e w' => e = .returned (.bool (inR (2 + 1) 1 6 && ccK (2 + 1) xs)) ∧ Below w.heap.size w w') := l26Linear_any A c xs w HX.out.1 HN.out hn1
        simp only [Int.reduceAdd] at HC
        generalize (inR _ 1 6 && ccK _ xs) = R at *
        clear hn1
        go_enter Tryz.func36, Tryz.ntmps36
        go_wp2_with (go_at_call 78; (with_reducible refine HF.out.mono ?_); rintro e w' ⟨rfl, rfl⟩)
        refine HC.out.mono ?_
        rintro e w1 ⟨rfl, hb⟩
        go_wp2
        go_ret
        exact ⟨rfl, hb⟩
      · have HC : Hid (Calls Tryz.prog 82 #[.slice A xs.length c] w fun e w' => e = .returned (.bool (inR (3 + 1) 1 6 && ccK (3 + 1) xs)) ∧ Below w.heap.size w w') := l26Unit_any A c xs w HX.out HN.out hn1
        simp only [Int.reduceAdd] at HC
        generalize (inR _ 1 6 && ccK _ xs) = R at *
        clear hn1
        go_enter Tryz.func36, Tryz.ntmps36
        go_wp2_with (go_at_call 78; (with_reducible refine HF.out.mono ?_); rintro e w' ⟨rfl, rfl⟩)
        refine HC.out.mono ?_
        rintro e w1 ⟨rfl, hb⟩
        go_wp2
        go_ret
        exact ⟨rfl, hb⟩
      · have HC : Hid (Calls Tryz.prog 83 #[.slice A xs.length c] w fun e w' => e = .returned (.bool (inR (4 + 1) 1 6 && ccK (4 + 1) xs)) ∧ Below w.heap.size w w') := l26Period_any A c xs w HX.out HN.out hn1
        simp only [Int.reduceAdd] at HC
        generalize (inR _ 1 6 && ccK _ xs) = R at *
        clear hn1
        go_enter Tryz.func36, Tryz.ntmps36
        go_wp2_with (go_at_call 78; (with_reducible refine HF.out.mono ?_); rintro e w' ⟨rfl, rfl⟩)
        refine HC.out.mono ?_
        rintro e w1 ⟨rfl, hb⟩
        go_wp2
        go_ret
        exact ⟨rfl, hb⟩
      · have HC : Hid (Calls Tryz.prog 84 #[.slice A xs.length c] w fun e w' => e = .returned (.bool (inR (5 + 1) 1 6 && ccK (5 + 1) xs)) ∧ Below w.heap.size w w') := l26Best_any A c xs w HX.out.1 HN.out hn1
        simp only [Int.reduceAdd] at HC
        generalize (inR _ 1 6 && ccK _ xs) = R at *
        clear hn1
        go_enter Tryz.func36, Tryz.ntmps36
        go_wp2_with (go_at_call 78; (with_reducible refine HF.out.mono ?_); rintro e w' ⟨rfl, rfl⟩)
        refine HC.out.mono ?_
        rintro e w1 ⟨rfl, hb⟩
        go_wp2
        go_ret
        exact ⟨rfl, hb⟩
    · have e1 : (kk == 1) = false := by simp; omega
      have e2 : (kk == 2) = false := by simp; omega
      have e3 : (kk == 3) = false := by simp; omega
      have e4 : (kk == 4) = false := by simp; omega
      have e5 : (kk == 5) = false := by simp; omega
      have e6 : (kk == 6) = false := by simp; omega
      have HR : Hid ((inR kk 1 6 && ccK kk xs) = false) := by
        unfold Hid
        rw [show inR kk 1 6 = false from inR_false.2 (by omega)]
        rfl
      rw [HR.out]
      clear h6
      go_enter Tryz.func36, Tryz.ntmps36
      go_wp2_with (go_at_call 78; (with_reducible refine HF.out.mono ?_); rintro e w' ⟨rfl, rfl⟩)
      go_ret
      exact ⟨rfl, EB.out⟩
theorem sCheckCertificate_any (kk : Int) (A : Option Addr) (c : Nat) (xs : List Int) (w : World) (hx : RdC w w.heap.size A c xs) (hm : xs.length ≤ maxLen) :
    Calls Tryz.prog 8 #[certV kk A xs.length c] w fun e w' => e = .returned (.bool (ccB kk xs)) ∧ Below w.heap.size w w' := by
  have HC : Hid (Calls Tryz.prog 36 #[.pointer (some ⟨w.heap.size, 0, none⟩)] (w.alloc (.cells #[.int .i64 kk, .slice A xs.length c] 26)) fun e w' => e = .returned (.bool (ccB kk xs)) ∧ Below (w.alloc (.cells #[.int .i64 kk, .slice A xs.length c] 26)).heap.size (w.alloc (.cells #[.int .i64 kk, .slice A xs.length c] 26)) w') :=
    l26Ok_any w.heap.size kk A c xs _ ⟨(hx.1.below (ext1 _ _)).more (by simp), hx.2⟩ hm (by rw [cell_one]; rfl) (by rw [cell_one]; rfl)
  clear hx
  unfold certV
  go_enter Tryz.func8, Tryz.ntmps8
  go_wp2_with fail
  refine HC.out.mono ?_
  rintro e w1 ⟨rfl, hb⟩
  go_wp2
  go_ret
  exact ⟨rfl, ext_trans (ext1 _ _) hb⟩
end Go.Proofs.YtpgkellmhlmjeaaGreatDoor
namespace Go.Proofs.YtpgkellmhlmjeaaGreatDoor
open Go.RowKit Go.Sort
/-- The claim of a certificate of each kind. -/
def cl1 (d0 d1 d2 : ByteArray) : ByteArray := (((((({ data := #[103, 99, 100, 32] } : ByteArray) ++ d0) ++ ({ data := #[32] } : ByteArray)) ++ d1) ++ ({ data := #[32, 61, 32] } : ByteArray)) ++ d2)
def cl2 (d0 : ByteArray) : ByteArray := (d0 ++ ({ data := #[32, 105, 115, 32, 110, 111, 32, 115, 113, 117, 97, 114, 101] } : ByteArray))
def cl3 (d0 d1 d2 : ByteArray) : ByteArray := (((((d0 ++ ({ data := #[32, 120, 32, 43, 32] } : ByteArray)) ++ d1) ++ ({ data := #[32, 121, 32, 61, 32] } : ByteArray)) ++ d2) ++ ({ data := #[32, 104, 97, 115, 32, 110, 111, 32, 115, 111, 108, 117, 116, 105, 111, 110] } : ByteArray))
def cl4 (d0 d1 d2 : ByteArray) : ByteArray := ((((d1 ++ ({ data := #[44, 32] } : ByteArray)) ++ d2) ++ ({ data := #[32, 105, 115, 32, 108, 101, 97, 115, 116, 32, 102, 111, 114, 32] } : ByteArray)) ++ d0)
def cl5 (d0 d1 d2 d3 d4 : ByteArray) : ByteArray := (((((((((({ data := #[40] } : ByteArray) ++ d0) ++ ({ data := #[43, 114] } : ByteArray)) ++ d1) ++ ({ data := #[41, 47] } : ByteArray)) ++ d2) ++ ({ data := #[32, 104, 97, 115, 32, 104, 101, 97, 100, 32] } : ByteArray)) ++ d3) ++ ({ data := #[32, 97, 110, 100, 32, 112, 101, 114, 105, 111, 100, 32] } : ByteArray)) ++ d4)
def cl6 (d0 d1 d2 d3 : ByteArray) : ByteArray := ((((((d2 ++ ({ data := #[47] } : ByteArray)) ++ d3) ++ ({ data := #[32, 105, 115, 32, 98, 101, 115, 116, 32, 102, 111, 114, 32] } : ByteArray)) ++ d0) ++ ({ data := #[47] } : ByteArray)) ++ d1)
def dcX (xs : List Int) (j : Nat) : ByteArray := decB (xs.getD j 0)
def clK (kk : Int) (xs : List Int) : ByteArray :=
  if kk = 1 then cl1 (dcX xs 0) (dcX xs 1) (dcX xs 2)
  else if kk = 2 then cl2 (dcX xs 0)
  else if kk = 3 then cl3 (dcX xs 0) (dcX xs 1) (dcX xs 2)
  else if kk = 4 then cl4 (dcX xs 0) (dcX xs 1) (dcX xs 2)
  else if kk = 5 then cl5 (dcX xs 0) (dcX xs 1) (dcX xs 2) (dcX xs 3) (dcX xs 4)
  else cl6 (dcX xs 0) (dcX xs 1) (dcX xs 2) (dcX xs 3)
/-- The claim of a certificate that is accepted. -/
def clB (kk : Int) (xs : List Int) : ByteArray := if ccB kk xs = true then clK kk xs else ⟨#[]⟩
theorem gc_len {xs : List Int} (h : gcB xs = true) : xs.length = 5 := by
  unfold gcB at h
  split at h
  · rfl
  · cases h
theorem ro_len {xs : List Int} (h : roB xs = true) : xs.length = 2 := by
  unfold roB at h
  split at h
  · rfl
  · cases h
theorem li_len {xs : List Int} (h : liB xs = true) : xs.length = 4 := by
  unfold liB at h
  split at h
  · rfl
  · cases h
theorem cc_len {kk : Int} {xs : List Int} (h : ccB kk xs = true) : (1 ≤ kk ∧ kk ≤ 6) ∧ (xs.length ≤ 420 ∧ ∀ x ∈ xs, -1000000000 ≤ x ∧ x ≤ 1000000000) ∧ (kk = 1 → 3 ≤ xs.length) ∧ (kk = 2 → 1 ≤ xs.length) ∧ (kk = 3 → 3 ≤ xs.length) ∧ (kk = 4 → 3 ≤ xs.length) ∧ (kk = 5 → 5 ≤ xs.length) ∧ (kk = 6 → 4 ≤ xs.length) := by
  unfold ccB bdC at h
  rw [Bool.and_eq_true, Bool.and_eq_true] at h
  obtain ⟨⟨h1, h2⟩, h3⟩ := h
  refine ⟨inR_true.1 h1, nbB_all h2, ?_, ?_, ?_, ?_, ?_, ?_⟩
  all_goals
    intro hk
    subst hk
    unfold ccK at h3
    simp only [Int.reduceEq, if_false, if_true] at h3
  · have := gc_len h3; omega
  · have := ro_len h3; omega
  · have := li_len h3; omega
  · unfold unB at h3
    rw [Bool.and_eq_true, decide_eq_true_iff] at h3
    omega
  · unfold peB at h3
    rw [Bool.and_eq_true, decide_eq_true_iff] at h3
    omega
  · unfold neB at h3
    rw [Bool.and_eq_true, decide_eq_true_iff] at h3
    omega
theorem app_size (a b : ByteArray) : (a ++ b).size = a.size + b.size := ByteArray.size_append
theorem clz1 (d0 d1 d2 : ByteArray) (h0 : d0.size ≤ 21) (h1 : d1.size ≤ 21) (h2 : d2.size ≤ 21) : (({ data := #[103, 99, 100, 32] } : ByteArray) ++ d0).size ≤ 500 ∧ ((({ data := #[103, 99, 100, 32] } : ByteArray) ++ d0) ++ ({ data := #[32] } : ByteArray)).size ≤ 500 ∧ (((({ data := #[103, 99, 100, 32] } : ByteArray) ++ d0) ++ ({ data := #[32] } : ByteArray)) ++ d1).size ≤ 500 ∧ ((((({ data := #[103, 99, 100, 32] } : ByteArray) ++ d0) ++ ({ data := #[32] } : ByteArray)) ++ d1) ++ ({ data := #[32, 61, 32] } : ByteArray)).size ≤ 500 ∧ (((((({ data := #[103, 99, 100, 32] } : ByteArray) ++ d0) ++ ({ data := #[32] } : ByteArray)) ++ d1) ++ ({ data := #[32, 61, 32] } : ByteArray)) ++ d2).size ≤ 500 := by
  have l0 : ({ data := #[103, 99, 100, 32] } : ByteArray).size = 4 := rfl
  have l1 : ({ data := #[32] } : ByteArray).size = 1 := rfl
  have l2 : ({ data := #[32, 61, 32] } : ByteArray).size = 3 := rfl
  simp only [app_size]
  omega
theorem clz2 (d0 : ByteArray) (h0 : d0.size ≤ 21) : (d0 ++ ({ data := #[32, 105, 115, 32, 110, 111, 32, 115, 113, 117, 97, 114, 101] } : ByteArray)).size ≤ 500 := by
  have l0 : ({ data := #[32, 105, 115, 32, 110, 111, 32, 115, 113, 117, 97, 114, 101] } : ByteArray).size = 13 := rfl
  simp only [app_size]
  omega
theorem clz3 (d0 d1 d2 : ByteArray) (h0 : d0.size ≤ 21) (h1 : d1.size ≤ 21) (h2 : d2.size ≤ 21) : (d0 ++ ({ data := #[32, 120, 32, 43, 32] } : ByteArray)).size ≤ 500 ∧ ((d0 ++ ({ data := #[32, 120, 32, 43, 32] } : ByteArray)) ++ d1).size ≤ 500 ∧ (((d0 ++ ({ data := #[32, 120, 32, 43, 32] } : ByteArray)) ++ d1) ++ ({ data := #[32, 121, 32, 61, 32] } : ByteArray)).size ≤ 500 ∧ ((((d0 ++ ({ data := #[32, 120, 32, 43, 32] } : ByteArray)) ++ d1) ++ ({ data := #[32, 121, 32, 61, 32] } : ByteArray)) ++ d2).size ≤ 500 ∧ (((((d0 ++ ({ data := #[32, 120, 32, 43, 32] } : ByteArray)) ++ d1) ++ ({ data := #[32, 121, 32, 61, 32] } : ByteArray)) ++ d2) ++ ({ data := #[32, 104, 97, 115, 32, 110, 111, 32, 115, 111, 108, 117, 116, 105, 111, 110] } : ByteArray)).size ≤ 500 := by
  have l0 : ({ data := #[32, 120, 32, 43, 32] } : ByteArray).size = 5 := rfl
  have l1 : ({ data := #[32, 121, 32, 61, 32] } : ByteArray).size = 5 := rfl
  have l2 : ({ data := #[32, 104, 97, 115, 32, 110, 111, 32, 115, 111, 108, 117, 116, 105, 111, 110] } : ByteArray).size = 16 := rfl
  simp only [app_size]
  omega
theorem clz4 (d0 d1 d2 : ByteArray) (h0 : d0.size ≤ 21) (h1 : d1.size ≤ 21) (h2 : d2.size ≤ 21) : (d1 ++ ({ data := #[44, 32] } : ByteArray)).size ≤ 500 ∧ ((d1 ++ ({ data := #[44, 32] } : ByteArray)) ++ d2).size ≤ 500 ∧ (((d1 ++ ({ data := #[44, 32] } : ByteArray)) ++ d2) ++ ({ data := #[32, 105, 115, 32, 108, 101, 97, 115, 116, 32, 102, 111, 114, 32] } : ByteArray)).size ≤ 500 ∧ ((((d1 ++ ({ data := #[44, 32] } : ByteArray)) ++ d2) ++ ({ data := #[32, 105, 115, 32, 108, 101, 97, 115, 116, 32, 102, 111, 114, 32] } : ByteArray)) ++ d0).size ≤ 500 := by
  have l0 : ({ data := #[44, 32] } : ByteArray).size = 2 := rfl
  have l1 : ({ data := #[32, 105, 115, 32, 108, 101, 97, 115, 116, 32, 102, 111, 114, 32] } : ByteArray).size = 14 := rfl
  simp only [app_size]
  omega
theorem clz5 (d0 d1 d2 d3 d4 : ByteArray) (h0 : d0.size ≤ 21) (h1 : d1.size ≤ 21) (h2 : d2.size ≤ 21) (h3 : d3.size ≤ 21) (h4 : d4.size ≤ 21) : (({ data := #[40] } : ByteArray) ++ d0).size ≤ 500 ∧ ((({ data := #[40] } : ByteArray) ++ d0) ++ ({ data := #[43, 114] } : ByteArray)).size ≤ 500 ∧ (((({ data := #[40] } : ByteArray) ++ d0) ++ ({ data := #[43, 114] } : ByteArray)) ++ d1).size ≤ 500 ∧ ((((({ data := #[40] } : ByteArray) ++ d0) ++ ({ data := #[43, 114] } : ByteArray)) ++ d1) ++ ({ data := #[41, 47] } : ByteArray)).size ≤ 500 ∧ (((((({ data := #[40] } : ByteArray) ++ d0) ++ ({ data := #[43, 114] } : ByteArray)) ++ d1) ++ ({ data := #[41, 47] } : ByteArray)) ++ d2).size ≤ 500 ∧ ((((((({ data := #[40] } : ByteArray) ++ d0) ++ ({ data := #[43, 114] } : ByteArray)) ++ d1) ++ ({ data := #[41, 47] } : ByteArray)) ++ d2) ++ ({ data := #[32, 104, 97, 115, 32, 104, 101, 97, 100, 32] } : ByteArray)).size ≤ 500 ∧ (((((((({ data := #[40] } : ByteArray) ++ d0) ++ ({ data := #[43, 114] } : ByteArray)) ++ d1) ++ ({ data := #[41, 47] } : ByteArray)) ++ d2) ++ ({ data := #[32, 104, 97, 115, 32, 104, 101, 97, 100, 32] } : ByteArray)) ++ d3).size ≤ 500 ∧ ((((((((({ data := #[40] } : ByteArray) ++ d0) ++ ({ data := #[43, 114] } : ByteArray)) ++ d1) ++ ({ data := #[41, 47] } : ByteArray)) ++ d2) ++ ({ data := #[32, 104, 97, 115, 32, 104, 101, 97, 100, 32] } : ByteArray)) ++ d3) ++ ({ data := #[32, 97, 110, 100, 32, 112, 101, 114, 105, 111, 100, 32] } : ByteArray)).size ≤ 500 ∧ (((((((((({ data := #[40] } : ByteArray) ++ d0) ++ ({ data := #[43, 114] } : ByteArray)) ++ d1) ++ ({ data := #[41, 47] } : ByteArray)) ++ d2) ++ ({ data := #[32, 104, 97, 115, 32, 104, 101, 97, 100, 32] } : ByteArray)) ++ d3) ++ ({ data := #[32, 97, 110, 100, 32, 112, 101, 114, 105, 111, 100, 32] } : ByteArray)) ++ d4).size ≤ 500 := by
  have l0 : ({ data := #[40] } : ByteArray).size = 1 := rfl
  have l1 : ({ data := #[43, 114] } : ByteArray).size = 2 := rfl
  have l2 : ({ data := #[41, 47] } : ByteArray).size = 2 := rfl
  have l3 : ({ data := #[32, 104, 97, 115, 32, 104, 101, 97, 100, 32] } : ByteArray).size = 10 := rfl
  have l4 : ({ data := #[32, 97, 110, 100, 32, 112, 101, 114, 105, 111, 100, 32] } : ByteArray).size = 12 := rfl
  simp only [app_size]
  omega
theorem clz6 (d0 d1 d2 d3 : ByteArray) (h0 : d0.size ≤ 21) (h1 : d1.size ≤ 21) (h2 : d2.size ≤ 21) (h3 : d3.size ≤ 21) : (d2 ++ ({ data := #[47] } : ByteArray)).size ≤ 500 ∧ ((d2 ++ ({ data := #[47] } : ByteArray)) ++ d3).size ≤ 500 ∧ (((d2 ++ ({ data := #[47] } : ByteArray)) ++ d3) ++ ({ data := #[32, 105, 115, 32, 98, 101, 115, 116, 32, 102, 111, 114, 32] } : ByteArray)).size ≤ 500 ∧ ((((d2 ++ ({ data := #[47] } : ByteArray)) ++ d3) ++ ({ data := #[32, 105, 115, 32, 98, 101, 115, 116, 32, 102, 111, 114, 32] } : ByteArray)) ++ d0).size ≤ 500 ∧ (((((d2 ++ ({ data := #[47] } : ByteArray)) ++ d3) ++ ({ data := #[32, 105, 115, 32, 98, 101, 115, 116, 32, 102, 111, 114, 32] } : ByteArray)) ++ d0) ++ ({ data := #[47] } : ByteArray)).size ≤ 500 ∧ ((((((d2 ++ ({ data := #[47] } : ByteArray)) ++ d3) ++ ({ data := #[32, 105, 115, 32, 98, 101, 115, 116, 32, 102, 111, 114, 32] } : ByteArray)) ++ d0) ++ ({ data := #[47] } : ByteArray)) ++ d1).size ≤ 500 := by
  have l0 : ({ data := #[47] } : ByteArray).size = 1 := rfl
  have l1 : ({ data := #[32, 105, 115, 32, 98, 101, 115, 116, 32, 102, 111, 114, 32] } : ByteArray).size = 13 := rfl
  simp only [app_size]
  omega
end Go.Proofs.YtpgkellmhlmjeaaGreatDoor
