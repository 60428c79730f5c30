/- XCheckHW XClaimP XClaimW in one text. No condition but those that each theorem names. -/
import Derived.Test.YtmgfceiomfiknaaDoorCheckFW
import Derived.Test.YtmgfceiomfiknaaDoorCheckDW
import Derived.Test.YtmgfceiomfiknaaDoorCheckGW
import Derived.Test.YtmgfceiomfiknaaDoorMcD
import Derived.Test.YtmgfceiomfiknaaDoorCertW
import Derived.Deep.DeepCutAuto
/- Certificates: which are accepted: both walks. No condition but those that each theorem names. -/
namespace Go.Proofs.YtmgfceiomfiknaaDoor
open Go.RowKit Go.Sort

/-- The rule of a kind. -/
def ccK (kk : Int) (xs : List Int) : Bool := if kk = 1 then gcB xs else if kk = 2 then roB xs else if kk = 3 then liB xs else if kk = 4 then unB xs else if kk = 5 then peB xs else neB xs
/-- The certificate is accepted. -/
def ccB (kk : Int) (xs : List Int) : Bool := bdC kk xs && ccK kk xs
set_option maxRecDepth 100000 in
set_option maxHeartbeats 2000000 in
theorem iCheckCertificate_any (kk : Int) (A : Option Addr) (c : Nat) (xs : List Int) (w : World) (hx : RdC w w.heap.size A c xs) (hm : xs.length ≤ maxLen) :
    Calls Tryd.prog 40 #[certV kk A xs.length c] w fun e w' => e = .returned (.bool (ccB kk xs)) ∧ Below w.heap.size w w' := by
  have HX : Hid (∀ W, Below w.heap.size w W → RdC W W.heap.size A c xs) := fun W hb => ⟨(hx.1.below hb).more hb.size, hx.2⟩
  have HB : Hid (∀ W, Below w.heap.size w W → Calls Tryd.prog 23 #[certV kk A xs.length c] W fun e w' => e = .returned (.bool (bdC kk xs)) ∧ Below W.heap.size W w') := fun W hb => isBoundedCert_any kk A c xs W (HX.out W hb).1 hm
  have HU : Hid (ccB kk xs = (bdC kk xs && ccK kk xs)) := rfl
  rw [HU.out]
  clear HU hx
  cases hbd : bdC kk xs
  · rw [hbd] at HB
    clear hbd
    unfold certV at *
    go_enter Tryd.func40, Tryd.ntmps40
    go_wp2_with fail
    generalize hW : World.alloc (World.alloc w _) _ = W0
    have E0 : Hid (Below w.heap.size w W0) := by unfold Hid; rw [← hW]; exact ext_alloc (ext1 _ _) _
    have k0 : ∀ x os, (grow (redrawn W0 x) os).cell? ⟨w.heap.size, 0, none⟩ = some (.int .i64 kk) := cell_regrown (by rw [← hW, cell_two_fst]; rfl)
    have k1 : ∀ x os, (grow (redrawn W0 x) os).cell? ⟨w.heap.size, 1, none⟩ = some (.slice A xs.length c) := cell_regrown (by rw [← hW, cell_two_fst]; rfl)
    clear hW
    refine wp_region_quiet_below (by kernel_rfl) (by kernel_rfl) ?_
    repeat (first | go_big_quiet_step ((with_reducible exact Calls.regrown_of (HB.out _ (ext_trans E0.out (below_regrown _ _ _))))) | quiet_step ((with_reducible exact Calls.regrown_of (HB.out _ (ext_trans E0.out (below_regrown _ _ _))))))
    refine wpQuiet_nil ?_
    intro _ hw'
    obtain ⟨⟨dq, oq⟩, hw''⟩ := hw'
    subst hw''
    go_wp2
    go_ret
    exact ⟨rfl, ext_trans E0.out (below_regrown _ _ _)⟩
  · rw [hbd] at HB
    obtain ⟨hk, hn⟩ : inR kk 1 6 = true ∧ nbB xs = true := by unfold bdC at hbd; simpa using hbd
    obtain ⟨hk1, hk2⟩ := inR_true.1 hk
    obtain ⟨hn1, hn2⟩ := nbB_all hn
    have HN := Lib.hid hn2
    have h6 : kk = 1 ∨ kk = 2 ∨ kk = 3 ∨ kk = 4 ∨ kk = 5 ∨ kk = 6 := by omega
    clear hbd hk hn hn2 hk1 hk2
    rw [Bool.true_and]
    rcases h6 with rfl | rfl | rfl | rfl | rfl | rfl
    · have HC : Hid (∀ W, Below w.heap.size w W → Calls Tryd.prog 66 #[.slice A xs.length c] W fun e w' => e = .returned (.bool (ccK (0 + 1) xs)) ∧ Below W.heap.size W w') := fun W hb => checkGcd_any A c xs W (HX.out W hb).1 HN.out hn1
      rw [show (0 + 1 : Int) = _ from rfl] at HC
      simp only [Int.reduceAdd] at HC
      generalize ccK _ xs = R at *
      clear hn1
      unfold certV at *
      go_enter Tryd.func40, Tryd.ntmps40
      go_wp2_with fail
      generalize hW : World.alloc (World.alloc w _) _ = W0
      have E0 : Hid (Below w.heap.size w W0) := by unfold Hid; rw [← hW]; exact ext_alloc (ext1 _ _) _
      have k0 : ∀ x os, (grow (redrawn W0 x) os).cell? ⟨w.heap.size, 0, none⟩ = some (.int .i64 _) := cell_regrown (by rw [← hW, cell_two_fst]; rfl)
      have k1 : ∀ x os, (grow (redrawn W0 x) os).cell? ⟨w.heap.size, 1, none⟩ = some (.slice A xs.length c) := cell_regrown (by rw [← hW, cell_two_fst]; rfl)
      have k2 : ∀ x os, (grow (redrawn W0 x) os).cell? ⟨w.heap.size + 1, 0, none⟩ = some (.func (.func 66) #[] #[]) := cell_regrown (by rw [← hW, cell_two_snd]; rfl)
      clear hW
      refine wp_region_quiet_below (by kernel_rfl) (by kernel_rfl) ?_
      repeat (first | go_big_quiet_step ((first | (with_reducible exact Calls.regrown_of (HB.out _ (ext_trans E0.out (below_regrown _ _ _)))) | (with_reducible exact Calls.regrown_of (HC.out _ (ext_trans E0.out (below_regrown _ _ _)))))) | quiet_step ((first | (with_reducible exact Calls.regrown_of (HB.out _ (ext_trans E0.out (below_regrown _ _ _)))) | (with_reducible exact Calls.regrown_of (HC.out _ (ext_trans E0.out (below_regrown _ _ _)))))))
      refine wpQuiet_nil ?_
      intro _ hw'
      obtain ⟨⟨dq, oq⟩, hw''⟩ := hw'
      subst hw''
      go_wp2
      go_ret
      exact ⟨rfl, ext_trans E0.out (below_regrown _ _ _)⟩
    · have HC : Hid (∀ W, Below w.heap.size w W → Calls Tryd.prog 67 #[.slice A xs.length c] W fun e w' => e = .returned (.bool (ccK (1 + 1) xs)) ∧ Below W.heap.size W w') := fun W hb => checkRoot_any A c xs W (HX.out W hb).1 HN.out hn1
      rw [show (1 + 1 : Int) = _ from rfl] at HC
      simp only [Int.reduceAdd] at HC
      generalize ccK _ xs = R at *
      clear hn1
      unfold certV at *
      go_enter Tryd.func40, Tryd.ntmps40
      go_wp2_with fail
      generalize hW : World.alloc (World.alloc w _) _ = W0
      have E0 : Hid (Below w.heap.size w W0) := by unfold Hid; rw [← hW]; exact ext_alloc (ext1 _ _) _
      have k0 : ∀ x os, (grow (redrawn W0 x) os).cell? ⟨w.heap.size, 0, none⟩ = some (.int .i64 _) := cell_regrown (by rw [← hW, cell_two_fst]; rfl)
      have k1 : ∀ x os, (grow (redrawn W0 x) os).cell? ⟨w.heap.size, 1, none⟩ = some (.slice A xs.length c) := cell_regrown (by rw [← hW, cell_two_fst]; rfl)
      have k2 : ∀ x os, (grow (redrawn W0 x) os).cell? ⟨w.heap.size + 1, 1, none⟩ = some (.func (.func 67) #[] #[]) := cell_regrown (by rw [← hW, cell_two_snd]; rfl)
      clear hW
      refine wp_region_quiet_below (by kernel_rfl) (by kernel_rfl) ?_
      repeat (first | go_big_quiet_step ((first | (with_reducible exact Calls.regrown_of (HB.out _ (ext_trans E0.out (below_regrown _ _ _)))) | (with_reducible exact Calls.regrown_of (HC.out _ (ext_trans E0.out (below_regrown _ _ _)))))) | quiet_step ((first | (with_reducible exact Calls.regrown_of (HB.out _ (ext_trans E0.out (below_regrown _ _ _)))) | (with_reducible exact Calls.regrown_of (HC.out _ (ext_trans E0.out (below_regrown _ _ _)))))))
      refine wpQuiet_nil ?_
      intro _ hw'
      obtain ⟨⟨dq, oq⟩, hw''⟩ := hw'
      subst hw''
      go_wp2
      go_ret
      exact ⟨rfl, ext_trans E0.out (below_regrown _ _ _)⟩
    · have HC : Hid (∀ W, Below w.heap.size w W → Calls Tryd.prog 68 #[.slice A xs.length c] W fun e w' => e = .returned (.bool (ccK (2 + 1) xs)) ∧ Below W.heap.size W w') := fun W hb => checkLinear_any A c xs W (HX.out W hb).1 HN.out hn1
      rw [show (2 + 1 : Int) = _ from rfl] at HC
      simp only [Int.reduceAdd] at HC
      generalize ccK _ xs = R at *
      clear hn1
      unfold certV at *
      go_enter Tryd.func40, Tryd.ntmps40
      go_wp2_with fail
      generalize hW : World.alloc (World.alloc w _) _ = W0
      have E0 : Hid (Below w.heap.size w W0) := by unfold Hid; rw [← hW]; exact ext_alloc (ext1 _ _) _
      have k0 : ∀ x os, (grow (redrawn W0 x) os).cell? ⟨w.heap.size, 0, none⟩ = some (.int .i64 _) := cell_regrown (by rw [← hW, cell_two_fst]; rfl)
      have k1 : ∀ x os, (grow (redrawn W0 x) os).cell? ⟨w.heap.size, 1, none⟩ = some (.slice A xs.length c) := cell_regrown (by rw [← hW, cell_two_fst]; rfl)
      have k2 : ∀ x os, (grow (redrawn W0 x) os).cell? ⟨w.heap.size + 1, 2, none⟩ = some (.func (.func 68) #[] #[]) := cell_regrown (by rw [← hW, cell_two_snd]; rfl)
      clear hW
      refine wp_region_quiet_below (by kernel_rfl) (by kernel_rfl) ?_
      repeat (first | go_big_quiet_step ((first | (with_reducible exact Calls.regrown_of (HB.out _ (ext_trans E0.out (below_regrown _ _ _)))) | (with_reducible exact Calls.regrown_of (HC.out _ (ext_trans E0.out (below_regrown _ _ _)))))) | quiet_step ((first | (with_reducible exact Calls.regrown_of (HB.out _ (ext_trans E0.out (below_regrown _ _ _)))) | (with_reducible exact Calls.regrown_of (HC.out _ (ext_trans E0.out (below_regrown _ _ _)))))))
      refine wpQuiet_nil ?_
      intro _ hw'
      obtain ⟨⟨dq, oq⟩, hw''⟩ := hw'
      subst hw''
      go_wp2
      go_ret
      exact ⟨rfl, ext_trans E0.out (below_regrown _ _ _)⟩
    · have HC : Hid (∀ W, Below w.heap.size w W → Calls Tryd.prog 69 #[.slice A xs.length c] W fun e w' => e = .returned (.bool (ccK (3 + 1) xs)) ∧ Below W.heap.size W w') := fun W hb => checkUnit_any A c xs W (HX.out W hb) HN.out hn1
      rw [show (3 + 1 : Int) = _ from rfl] at HC
      simp only [Int.reduceAdd] at HC
      generalize ccK _ xs = R at *
      clear hn1
      unfold certV at *
      go_enter Tryd.func40, Tryd.ntmps40
      go_wp2_with fail
      generalize hW : World.alloc (World.alloc w _) _ = W0
      have E0 : Hid (Below w.heap.size w W0) := by unfold Hid; rw [← hW]; exact ext_alloc (ext1 _ _) _
      have k0 : ∀ x os, (grow (redrawn W0 x) os).cell? ⟨w.heap.size, 0, none⟩ = some (.int .i64 _) := cell_regrown (by rw [← hW, cell_two_fst]; rfl)
      have k1 : ∀ x os, (grow (redrawn W0 x) os).cell? ⟨w.heap.size, 1, none⟩ = some (.slice A xs.length c) := cell_regrown (by rw [← hW, cell_two_fst]; rfl)
      have k2 : ∀ x os, (grow (redrawn W0 x) os).cell? ⟨w.heap.size + 1, 3, none⟩ = some (.func (.func 69) #[] #[]) := cell_regrown (by rw [← hW, cell_two_snd]; rfl)
      clear hW
      refine wp_region_quiet_below (by kernel_rfl) (by kernel_rfl) ?_
      repeat (first | go_big_quiet_step ((first | (with_reducible exact Calls.regrown_of (HB.out _ (ext_trans E0.out (below_regrown _ _ _)))) | (with_reducible exact Calls.regrown_of (HC.out _ (ext_trans E0.out (below_regrown _ _ _)))))) | quiet_step ((first | (with_reducible exact Calls.regrown_of (HB.out _ (ext_trans E0.out (below_regrown _ _ _)))) | (with_reducible exact Calls.regrown_of (HC.out _ (ext_trans E0.out (below_regrown _ _ _)))))))
      refine wpQuiet_nil ?_
      intro _ hw'
      obtain ⟨⟨dq, oq⟩, hw''⟩ := hw'
      subst hw''
      go_wp2
      go_ret
      exact ⟨rfl, ext_trans E0.out (below_regrown _ _ _)⟩
    · have HC : Hid (∀ W, Below w.heap.size w W → Calls Tryd.prog 70 #[.slice A xs.length c] W fun e w' => e = .returned (.bool (ccK (4 + 1) xs)) ∧ Below W.heap.size W w') := fun W hb => checkPeriod_any A c xs W (HX.out W hb) HN.out hn1
      rw [show (4 + 1 : Int) = _ from rfl] at HC
      simp only [Int.reduceAdd] at HC
      generalize ccK _ xs = R at *
      clear hn1
      unfold certV at *
      go_enter Tryd.func40, Tryd.ntmps40
      go_wp2_with fail
      generalize hW : World.alloc (World.alloc w _) _ = W0
      have E0 : Hid (Below w.heap.size w W0) := by unfold Hid; rw [← hW]; exact ext_alloc (ext1 _ _) _
      have k0 : ∀ x os, (grow (redrawn W0 x) os).cell? ⟨w.heap.size, 0, none⟩ = some (.int .i64 _) := cell_regrown (by rw [← hW, cell_two_fst]; rfl)
      have k1 : ∀ x os, (grow (redrawn W0 x) os).cell? ⟨w.heap.size, 1, none⟩ = some (.slice A xs.length c) := cell_regrown (by rw [← hW, cell_two_fst]; rfl)
      have k2 : ∀ x os, (grow (redrawn W0 x) os).cell? ⟨w.heap.size + 1, 4, none⟩ = some (.func (.func 70) #[] #[]) := cell_regrown (by rw [← hW, cell_two_snd]; rfl)
      clear hW
      refine wp_region_quiet_below (by kernel_rfl) (by kernel_rfl) ?_
      repeat (first | go_big_quiet_step ((first | (with_reducible exact Calls.regrown_of (HB.out _ (ext_trans E0.out (below_regrown _ _ _)))) | (with_reducible exact Calls.regrown_of (HC.out _ (ext_trans E0.out (below_regrown _ _ _)))))) | quiet_step ((first | (with_reducible exact Calls.regrown_of (HB.out _ (ext_trans E0.out (below_regrown _ _ _)))) | (with_reducible exact Calls.regrown_of (HC.out _ (ext_trans E0.out (below_regrown _ _ _)))))))
      refine wpQuiet_nil ?_
      intro _ hw'
      obtain ⟨⟨dq, oq⟩, hw''⟩ := hw'
      subst hw''
      go_wp2
      go_ret
      exact ⟨rfl, ext_trans E0.out (below_regrown _ _ _)⟩
    · have HC : Hid (∀ W, Below w.heap.size w W → Calls Tryd.prog 71 #[.slice A xs.length c] W fun e w' => e = .returned (.bool (ccK (5 + 1) xs)) ∧ Below W.heap.size W w') := fun W hb => checkNearest_any A c xs W (HX.out W hb).1 HN.out hn1
      rw [show (5 + 1 : Int) = _ from rfl] at HC
      simp only [Int.reduceAdd] at HC
      generalize ccK _ xs = R at *
      clear hn1
      unfold certV at *
      go_enter Tryd.func40, Tryd.ntmps40
      go_wp2_with fail
      generalize hW : World.alloc (World.alloc w _) _ = W0
      have E0 : Hid (Below w.heap.size w W0) := by unfold Hid; rw [← hW]; exact ext_alloc (ext1 _ _) _
      have k0 : ∀ x os, (grow (redrawn W0 x) os).cell? ⟨w.heap.size, 0, none⟩ = some (.int .i64 _) := cell_regrown (by rw [← hW, cell_two_fst]; rfl)
      have k1 : ∀ x os, (grow (redrawn W0 x) os).cell? ⟨w.heap.size, 1, none⟩ = some (.slice A xs.length c) := cell_regrown (by rw [← hW, cell_two_fst]; rfl)
      have k2 : ∀ x os, (grow (redrawn W0 x) os).cell? ⟨w.heap.size + 1, 5, none⟩ = some (.func (.func 71) #[] #[]) := cell_regrown (by rw [← hW, cell_two_snd]; rfl)
      clear hW
      refine wp_region_quiet_below (by kernel_rfl) (by kernel_rfl) ?_
      repeat (first | go_big_quiet_step ((first | (with_reducible exact Calls.regrown_of (HB.out _ (ext_trans E0.out (below_regrown _ _ _)))) | (with_reducible exact Calls.regrown_of (HC.out _ (ext_trans E0.out (below_regrown _ _ _)))))) | quiet_step ((first | (with_reducible exact Calls.regrown_of (HB.out _ (ext_trans E0.out (below_regrown _ _ _)))) | (with_reducible exact Calls.regrown_of (HC.out _ (ext_trans E0.out (below_regrown _ _ _)))))))
      refine wpQuiet_nil ?_
      intro _ hw'
      obtain ⟨⟨dq, oq⟩, hw''⟩ := hw'
      subst hw''
      go_wp2
      go_ret
      exact ⟨rfl, ext_trans E0.out (below_regrown _ _ _)⟩
set_option maxRecDepth 100000 in
set_option maxHeartbeats 2000000 in
theorem l26Ok_any (g : Nat) (kk : Int) (A : Option Addr) (c : Nat) (xs : List Int) (w : World) (hx : RdC w w.heap.size A c xs) (hm : xs.length ≤ maxLen) (c0 : w.cell? ⟨g, 0, none⟩ = some (.int .i64 kk)) (c1 : w.cell? ⟨g, 1, none⟩ = some (.slice A xs.length c)) :
    Calls Tryd.prog 36 #[.pointer (some ⟨g, 0, none⟩)] w fun e w' => e = .returned (.bool (ccB kk xs)) ∧ Below w.heap.size w w' := by
  have HX : Hid (RdC w w.heap.size A c xs) := hx
  have HF := Lib.hid (l26Fits_any g A c xs w hx.1 hm c1)
  have EB := Lib.hid (Below.refl w.heap.size w)
  have HU : Hid (ccB kk xs = (nbB xs && (inR kk 1 6 && ccK kk xs))) := by unfold Hid ccB bdC; rw [Bool.and_comm (inR kk 1 6), Bool.and_assoc]
  rw [HU.out]
  clear HU hx
  cases hn : nbB xs
  · rw [hn] at HF
    clear hn
    go_enter Tryd.func36, Tryd.ntmps36
    go_wp2_with (go_at_call 20; (with_reducible refine HF.out.mono ?_); rintro e w' ⟨rfl, rfl⟩)
    go_ret
    exact ⟨rfl, EB.out⟩
  · rw [hn] at HF
    obtain ⟨hn1, hn2⟩ := nbB_all hn
    have HN := Lib.hid hn2
    rw [Bool.true_and]
    clear hn hn2
    by_cases h6 : kk = 1 ∨ kk = 2 ∨ kk = 3 ∨ kk = 4 ∨ kk = 5 ∨ kk = 6
    · rcases h6 with rfl | rfl | rfl | rfl | rfl | rfl
      · have HC : Hid (Calls Tryd.prog 60 #[.slice A xs.length c] w fun e w' => e = .returned (.bool (inR (0 + 1) 1 6 && ccK (0 + 1) xs)) ∧ Below w.heap.size w w') := l26Gcd_any A c xs w HX.out.1 HN.out hn1
        simp only [Int.reduceAdd] at HC
        generalize (inR _ 1 6 && ccK _ xs) = R at *
        clear hn1
        go_enter Tryd.func36, Tryd.ntmps36
        go_wp2_with (go_at_call 20; (with_reducible refine HF.out.mono ?_); rintro e w' ⟨rfl, rfl⟩)
        refine HC.out.mono ?_
        rintro e w1 ⟨rfl, hb⟩
        go_wp2
        go_ret
        exact ⟨rfl, hb⟩
      · have HC : Hid (Calls Tryd.prog 61 #[.slice A xs.length c] w fun e w' => e = .returned (.bool (inR (1 + 1) 1 6 && ccK (1 + 1) xs)) ∧ Below w.heap.size w w') := l26Root_any A c xs w HX.out.1 HN.out hn1
        simp only [Int.reduceAdd] at HC
        generalize (inR _ 1 6 && ccK _ xs) = R at *
        clear hn1
        go_enter Tryd.func36, Tryd.ntmps36
        go_wp2_with (go_at_call 20; (with_reducible refine HF.out.mono ?_); rintro e w' ⟨rfl, rfl⟩)
        refine HC.out.mono ?_
        rintro e w1 ⟨rfl, hb⟩
        go_wp2
        go_ret
        exact ⟨rfl, hb⟩
      · have HC : Hid (Calls Tryd.prog 62 #[.slice A xs.length c] w fun e w' => e = .returned (.bool (inR (2 + 1) 1 6 && ccK (2 + 1) xs)) ∧ Below w.heap.size w w') := l26Linear_any A c xs w HX.out.1 HN.out hn1
        simp only [Int.reduceAdd] at HC
        generalize (inR _ 1 6 && ccK _ xs) = R at *
        clear hn1
        go_enter Tryd.func36, Tryd.ntmps36
        go_wp2_with (go_at_call 20; (with_reducible refine HF.out.mono ?_); rintro e w' ⟨rfl, rfl⟩)
        refine HC.out.mono ?_
        rintro e w1 ⟨rfl, hb⟩
        go_wp2
        go_ret
        exact ⟨rfl, hb⟩
      · have HC : Hid (Calls Tryd.prog 63 #[.slice A xs.length c] w fun e w' => e = .returned (.bool (inR (3 + 1) 1 6 && ccK (3 + 1) xs)) ∧ Below w.heap.size w w') := l26Unit_any A c xs w HX.out HN.out hn1
        simp only [Int.reduceAdd] at HC
        generalize (inR _ 1 6 && ccK _ xs) = R at *
        clear hn1
        go_enter Tryd.func36, Tryd.ntmps36
        go_wp2_with (go_at_call 20; (with_reducible refine HF.out.mono ?_); rintro e w' ⟨rfl, rfl⟩)
        refine HC.out.mono ?_
        rintro e w1 ⟨rfl, hb⟩
        go_wp2
        go_ret
        exact ⟨rfl, hb⟩
      · have HC : Hid (Calls Tryd.prog 64 #[.slice A xs.length c] w fun e w' => e = .returned (.bool (inR (4 + 1) 1 6 && ccK (4 + 1) xs)) ∧ Below w.heap.size w w') := l26Period_any A c xs w HX.out HN.out hn1
        simp only [Int.reduceAdd] at HC
        generalize (inR _ 1 6 && ccK _ xs) = R at *
        clear hn1
        go_enter Tryd.func36, Tryd.ntmps36
        go_wp2_with (go_at_call 20; (with_reducible refine HF.out.mono ?_); rintro e w' ⟨rfl, rfl⟩)
        refine HC.out.mono ?_
        rintro e w1 ⟨rfl, hb⟩
        go_wp2
        go_ret
        exact ⟨rfl, hb⟩
      · have HC : Hid (Calls Tryd.prog 65 #[.slice A xs.length c] w fun e w' => e = .returned (.bool (inR (5 + 1) 1 6 && ccK (5 + 1) xs)) ∧ Below w.heap.size w w') := l26Best_any A c xs w HX.out.1 HN.out hn1
        simp only [Int.reduceAdd] at HC
        generalize (inR _ 1 6 && ccK _ xs) = R at *
        clear hn1
        go_enter Tryd.func36, Tryd.ntmps36
        go_wp2_with (go_at_call 20; (with_reducible refine HF.out.mono ?_); rintro e w' ⟨rfl, rfl⟩)
        refine HC.out.mono ?_
        rintro e w1 ⟨rfl, hb⟩
        go_wp2
        go_ret
        exact ⟨rfl, hb⟩
    · have e1 : (kk == 1) = false := by simp; omega
      have e2 : (kk == 2) = false := by simp; omega
      have e3 : (kk == 3) = false := by simp; omega
      have e4 : (kk == 4) = false := by simp; omega
      have e5 : (kk == 5) = false := by simp; omega
      have e6 : (kk == 6) = false := by simp; omega
      have HR : Hid ((inR kk 1 6 && ccK kk xs) = false) := by
        unfold Hid
        rw [show inR kk 1 6 = false from inR_false.2 (by omega)]
        rfl
      rw [HR.out]
      clear h6
      go_enter Tryd.func36, Tryd.ntmps36
      go_wp2_with (go_at_call 20; (with_reducible refine HF.out.mono ?_); rintro e w' ⟨rfl, rfl⟩)
      go_ret
      exact ⟨rfl, EB.out⟩
end Go.Proofs.YtmgfceiomfiknaaDoor

/- ClaimOf: the plain law. No condition but those that each theorem names. -/
namespace Go.Proofs.YtmgfceiomfiknaaDoor
open Go.RowKit Go.Sort

/-- The claim of a certificate of each kind. -/
def cl1 (d0 d1 d2 : ByteArray) : ByteArray := (((((({ data := #[103, 99, 100, 32] } : ByteArray) ++ d0) ++ ({ data := #[32] } : ByteArray)) ++ d1) ++ ({ data := #[32, 61, 32] } : ByteArray)) ++ d2)
def cl2 (d0 : ByteArray) : ByteArray := (d0 ++ ({ data := #[32, 105, 115, 32, 110, 111, 32, 115, 113, 117, 97, 114, 101] } : ByteArray))
def cl3 (d0 d1 d2 : ByteArray) : ByteArray := (((((d0 ++ ({ data := #[32, 120, 32, 43, 32] } : ByteArray)) ++ d1) ++ ({ data := #[32, 121, 32, 61, 32] } : ByteArray)) ++ d2) ++ ({ data := #[32, 104, 97, 115, 32, 110, 111, 32, 115, 111, 108, 117, 116, 105, 111, 110] } : ByteArray))
def cl4 (d0 d1 d2 : ByteArray) : ByteArray := ((((d1 ++ ({ data := #[44, 32] } : ByteArray)) ++ d2) ++ ({ data := #[32, 105, 115, 32, 108, 101, 97, 115, 116, 32, 102, 111, 114, 32] } : ByteArray)) ++ d0)
def cl5 (d0 d1 d2 d3 d4 : ByteArray) : ByteArray := (((((((((({ data := #[40] } : ByteArray) ++ d0) ++ ({ data := #[43, 114] } : ByteArray)) ++ d1) ++ ({ data := #[41, 47] } : ByteArray)) ++ d2) ++ ({ data := #[32, 104, 97, 115, 32, 104, 101, 97, 100, 32] } : ByteArray)) ++ d3) ++ ({ data := #[32, 97, 110, 100, 32, 112, 101, 114, 105, 111, 100, 32] } : ByteArray)) ++ d4)
def cl6 (d0 d1 d2 d3 : ByteArray) : ByteArray := ((((((d2 ++ ({ data := #[47] } : ByteArray)) ++ d3) ++ ({ data := #[32, 105, 115, 32, 98, 101, 115, 116, 32, 102, 111, 114, 32] } : ByteArray)) ++ d0) ++ ({ data := #[47] } : ByteArray)) ++ d1)
def dcX (xs : List Int) (j : Nat) : ByteArray := decB (xs.getD j 0)
def clK (kk : Int) (xs : List Int) : ByteArray :=
  if kk = 1 then cl1 (dcX xs 0) (dcX xs 1) (dcX xs 2)
  else if kk = 2 then cl2 (dcX xs 0)
  else if kk = 3 then cl3 (dcX xs 0) (dcX xs 1) (dcX xs 2)
  else if kk = 4 then cl4 (dcX xs 0) (dcX xs 1) (dcX xs 2)
  else if kk = 5 then cl5 (dcX xs 0) (dcX xs 1) (dcX xs 2) (dcX xs 3) (dcX xs 4)
  else cl6 (dcX xs 0) (dcX xs 1) (dcX xs 2) (dcX xs 3)
/-- The claim of a certificate that is accepted. -/
def clB (kk : Int) (xs : List Int) : ByteArray := if ccB kk xs = true then clK kk xs else ⟨#[]⟩
theorem gc_len {xs : List Int} (h : gcB xs = true) : xs.length = 5 := by
  unfold gcB at h
  split at h
  · rfl
  · cases h
theorem ro_len {xs : List Int} (h : roB xs = true) : xs.length = 2 := by
  unfold roB at h
  split at h
  · rfl
  · cases h
theorem li_len {xs : List Int} (h : liB xs = true) : xs.length = 4 := by
  unfold liB at h
  split at h
  · rfl
  · cases h
theorem cc_len {kk : Int} {xs : List Int} (h : ccB kk xs = true) : (1 ≤ kk ∧ kk ≤ 6) ∧ (xs.length ≤ 420 ∧ ∀ x ∈ xs, -1000000000 ≤ x ∧ x ≤ 1000000000) ∧ (kk = 1 → 3 ≤ xs.length) ∧ (kk = 2 → 1 ≤ xs.length) ∧ (kk = 3 → 3 ≤ xs.length) ∧ (kk = 4 → 3 ≤ xs.length) ∧ (kk = 5 → 5 ≤ xs.length) ∧ (kk = 6 → 4 ≤ xs.length) := by
  unfold ccB bdC at h
  rw [Bool.and_eq_true, Bool.and_eq_true] at h
  obtain ⟨⟨h1, h2⟩, h3⟩ := h
  refine ⟨inR_true.1 h1, nbB_all h2, ?_, ?_, ?_, ?_, ?_, ?_⟩
  all_goals
    intro hk
    subst hk
    unfold ccK at h3
    simp only [Int.reduceEq, if_false, if_true] at h3
  · have := gc_len h3; omega
  · have := ro_len h3; omega
  · have := li_len h3; omega
  · unfold unB at h3
    rw [Bool.and_eq_true, decide_eq_true_iff] at h3
    omega
  · unfold peB at h3
    rw [Bool.and_eq_true, decide_eq_true_iff] at h3
    omega
  · unfold neB at h3
    rw [Bool.and_eq_true, decide_eq_true_iff] at h3
    omega
theorem app_size (a b : ByteArray) : (a ++ b).size = a.size + b.size := ByteArray.size_append
theorem clz1 (d0 d1 d2 : ByteArray) (h0 : d0.size ≤ 21) (h1 : d1.size ≤ 21) (h2 : d2.size ≤ 21) : (({ data := #[103, 99, 100, 32] } : ByteArray) ++ d0).size ≤ 500 ∧ ((({ data := #[103, 99, 100, 32] } : ByteArray) ++ d0) ++ ({ data := #[32] } : ByteArray)).size ≤ 500 ∧ (((({ data := #[103, 99, 100, 32] } : ByteArray) ++ d0) ++ ({ data := #[32] } : ByteArray)) ++ d1).size ≤ 500 ∧ ((((({ data := #[103, 99, 100, 32] } : ByteArray) ++ d0) ++ ({ data := #[32] } : ByteArray)) ++ d1) ++ ({ data := #[32, 61, 32] } : ByteArray)).size ≤ 500 ∧ (((((({ data := #[103, 99, 100, 32] } : ByteArray) ++ d0) ++ ({ data := #[32] } : ByteArray)) ++ d1) ++ ({ data := #[32, 61, 32] } : ByteArray)) ++ d2).size ≤ 500 := by
  have l0 : ({ data := #[103, 99, 100, 32] } : ByteArray).size = 4 := rfl
  have l1 : ({ data := #[32] } : ByteArray).size = 1 := rfl
  have l2 : ({ data := #[32, 61, 32] } : ByteArray).size = 3 := rfl
  simp only [app_size]
  omega
theorem clz2 (d0 : ByteArray) (h0 : d0.size ≤ 21) : (d0 ++ ({ data := #[32, 105, 115, 32, 110, 111, 32, 115, 113, 117, 97, 114, 101] } : ByteArray)).size ≤ 500 := by
  have l0 : ({ data := #[32, 105, 115, 32, 110, 111, 32, 115, 113, 117, 97, 114, 101] } : ByteArray).size = 13 := rfl
  simp only [app_size]
  omega
theorem clz3 (d0 d1 d2 : ByteArray) (h0 : d0.size ≤ 21) (h1 : d1.size ≤ 21) (h2 : d2.size ≤ 21) : (d0 ++ ({ data := #[32, 120, 32, 43, 32] } : ByteArray)).size ≤ 500 ∧ ((d0 ++ ({ data := #[32, 120, 32, 43, 32] } : ByteArray)) ++ d1).size ≤ 500 ∧ (((d0 ++ ({ data := #[32, 120, 32, 43, 32] } : ByteArray)) ++ d1) ++ ({ data := #[32, 121, 32, 61, 32] } : ByteArray)).size ≤ 500 ∧ ((((d0 ++ ({ data := #[32, 120, 32, 43, 32] } : ByteArray)) ++ d1) ++ ({ data := #[32, 121, 32, 61, 32] } : ByteArray)) ++ d2).size ≤ 500 ∧ (((((d0 ++ ({ data := #[32, 120, 32, 43, 32] } : ByteArray)) ++ d1) ++ ({ data := #[32, 121, 32, 61, 32] } : ByteArray)) ++ d2) ++ ({ data := #[32, 104, 97, 115, 32, 110, 111, 32, 115, 111, 108, 117, 116, 105, 111, 110] } : ByteArray)).size ≤ 500 := by
  have l0 : ({ data := #[32, 120, 32, 43, 32] } : ByteArray).size = 5 := rfl
  have l1 : ({ data := #[32, 121, 32, 61, 32] } : ByteArray).size = 5 := rfl
  have l2 : ({ data := #[32, 104, 97, 115, 32, 110, 111, 32, 115, 111, 108, 117, 116, 105, 111, 110] } : ByteArray).size = 16 := rfl
  simp only [app_size]
  omega
theorem clz4 (d0 d1 d2 : ByteArray) (h0 : d0.size ≤ 21) (h1 : d1.size ≤ 21) (h2 : d2.size ≤ 21) : (d1 ++ ({ data := #[44, 32] } : ByteArray)).size ≤ 500 ∧ ((d1 ++ ({ data := #[44, 32] } : ByteArray)) ++ d2).size ≤ 500 ∧ (((d1 ++ ({ data := #[44, 32] } : ByteArray)) ++ d2) ++ ({ data := #[32, 105, 115, 32, 108, 101, 97, 115, 116, 32, 102, 111, 114, 32] } : ByteArray)).size ≤ 500 ∧ ((((d1 ++ ({ data := #[44, 32] } : ByteArray)) ++ d2) ++ ({ data := #[32, 105, 115, 32, 108, 101, 97, 115, 116, 32, 102, 111, 114, 32] } : ByteArray)) ++ d0).size ≤ 500 := by
  have l0 : ({ data := #[44, 32] } : ByteArray).size = 2 := rfl
  have l1 : ({ data := #[32, 105, 115, 32, 108, 101, 97, 115, 116, 32, 102, 111, 114, 32] } : ByteArray).size = 14 := rfl
  simp only [app_size]
  omega
theorem clz5 (d0 d1 d2 d3 d4 : ByteArray) (h0 : d0.size ≤ 21) (h1 : d1.size ≤ 21) (h2 : d2.size ≤ 21) (h3 : d3.size ≤ 21) (h4 : d4.size ≤ 21) : (({ data := #[40] } : ByteArray) ++ d0).size ≤ 500 ∧ ((({ data := #[40] } : ByteArray) ++ d0) ++ ({ data := #[43, 114] } : ByteArray)).size ≤ 500 ∧ (((({ data := #[40] } : ByteArray) ++ d0) ++ ({ data := #[43, 114] } : ByteArray)) ++ d1).size ≤ 500 ∧ ((((({ data := #[40] } : ByteArray) ++ d0) ++ ({ data := #[43, 114] } : ByteArray)) ++ d1) ++ ({ data := #[41, 47] } : ByteArray)).size ≤ 500 ∧ (((((({ data := #[40] } : ByteArray) ++ d0) ++ ({ data := #[43, 114] } : ByteArray)) ++ d1) ++ ({ data := #[41, 47] } : ByteArray)) ++ d2).size ≤ 500 ∧ ((((((({ data := #[40] } : ByteArray) ++ d0) ++ ({ data := #[43, 114] } : ByteArray)) ++ d1) ++ ({ data := #[41, 47] } : ByteArray)) ++ d2) ++ ({ data := #[32, 104, 97, 115, 32, 104, 101, 97, 100, 32] } : ByteArray)).size ≤ 500 ∧ (((((((({ data := #[40] } : ByteArray) ++ d0) ++ ({ data := #[43, 114] } : ByteArray)) ++ d1) ++ ({ data := #[41, 47] } : ByteArray)) ++ d2) ++ ({ data := #[32, 104, 97, 115, 32, 104, 101, 97, 100, 32] } : ByteArray)) ++ d3).size ≤ 500 ∧ ((((((((({ data := #[40] } : ByteArray) ++ d0) ++ ({ data := #[43, 114] } : ByteArray)) ++ d1) ++ ({ data := #[41, 47] } : ByteArray)) ++ d2) ++ ({ data := #[32, 104, 97, 115, 32, 104, 101, 97, 100, 32] } : ByteArray)) ++ d3) ++ ({ data := #[32, 97, 110, 100, 32, 112, 101, 114, 105, 111, 100, 32] } : ByteArray)).size ≤ 500 ∧ (((((((((({ data := #[40] } : ByteArray) ++ d0) ++ ({ data := #[43, 114] } : ByteArray)) ++ d1) ++ ({ data := #[41, 47] } : ByteArray)) ++ d2) ++ ({ data := #[32, 104, 97, 115, 32, 104, 101, 97, 100, 32] } : ByteArray)) ++ d3) ++ ({ data := #[32, 97, 110, 100, 32, 112, 101, 114, 105, 111, 100, 32] } : ByteArray)) ++ d4).size ≤ 500 := by
  have l0 : ({ data := #[40] } : ByteArray).size = 1 := rfl
  have l1 : ({ data := #[43, 114] } : ByteArray).size = 2 := rfl
  have l2 : ({ data := #[41, 47] } : ByteArray).size = 2 := rfl
  have l3 : ({ data := #[32, 104, 97, 115, 32, 104, 101, 97, 100, 32] } : ByteArray).size = 10 := rfl
  have l4 : ({ data := #[32, 97, 110, 100, 32, 112, 101, 114, 105, 111, 100, 32] } : ByteArray).size = 12 := rfl
  simp only [app_size]
  omega
theorem clz6 (d0 d1 d2 d3 : ByteArray) (h0 : d0.size ≤ 21) (h1 : d1.size ≤ 21) (h2 : d2.size ≤ 21) (h3 : d3.size ≤ 21) : (d2 ++ ({ data := #[47] } : ByteArray)).size ≤ 500 ∧ ((d2 ++ ({ data := #[47] } : ByteArray)) ++ d3).size ≤ 500 ∧ (((d2 ++ ({ data := #[47] } : ByteArray)) ++ d3) ++ ({ data := #[32, 105, 115, 32, 98, 101, 115, 116, 32, 102, 111, 114, 32] } : ByteArray)).size ≤ 500 ∧ ((((d2 ++ ({ data := #[47] } : ByteArray)) ++ d3) ++ ({ data := #[32, 105, 115, 32, 98, 101, 115, 116, 32, 102, 111, 114, 32] } : ByteArray)) ++ d0).size ≤ 500 ∧ (((((d2 ++ ({ data := #[47] } : ByteArray)) ++ d3) ++ ({ data := #[32, 105, 115, 32, 98, 101, 115, 116, 32, 102, 111, 114, 32] } : ByteArray)) ++ d0) ++ ({ data := #[47] } : ByteArray)).size ≤ 500 ∧ ((((((d2 ++ ({ data := #[47] } : ByteArray)) ++ d3) ++ ({ data := #[32, 105, 115, 32, 98, 101, 115, 116, 32, 102, 111, 114, 32] } : ByteArray)) ++ d0) ++ ({ data := #[47] } : ByteArray)) ++ d1).size ≤ 500 := by
  have l0 : ({ data := #[47] } : ByteArray).size = 1 := rfl
  have l1 : ({ data := #[32, 105, 115, 32, 98, 101, 115, 116, 32, 102, 111, 114, 32] } : ByteArray).size = 13 := rfl
  simp only [app_size]
  omega
theorem cl6_assoc (d0 d1 d2 d3 : ByteArray) : ((d2 ++ ({ data := #[47] } : ByteArray) ++ d3) ++ ({ data := #[32, 105, 115, 32, 98, 101, 115, 116, 32, 102, 111, 114, 32] } : ByteArray)) ++ (d0 ++ ({ data := #[47] } : ByteArray) ++ d1) = cl6 d0 d1 d2 d3 := by
  unfold cl6
  simp only [ByteArray.append_assoc]
end Go.Proofs.YtmgfceiomfiknaaDoor

/- ClaimOf: both walks. No condition but those that each theorem names. -/
namespace Go.Proofs.YtmgfceiomfiknaaDoor
open Go.RowKit Go.Sort

/-- What the texts of the numbers hold up to k. -/
def CpS (w : World) (b0 h : Nat) (cb : List Value) (ds : List ByteArray) (k : Nat) (W : World) : Prop :=
  (∀ j d, j < k → ds[j]? = some d → W.cell? ⟨h, j, none⟩ = some (.string d)) ∧ (∀ j, j < ds.length → ∃ v, W.cell? ⟨h, j, none⟩ = some v) ∧ (∀ j, W.frozen? ⟨h, j, none⟩ = false) ∧ Below w.heap.size w W ∧ h < W.heap.size ∧ BoxV b0 cb W ∧ b0 ≠ h
section
variable {w W W' : World} {b0 h : Nat} {cb : List Value} {ds : List ByteArray} {k : Nat}
theorem CpS.next (hc : CpS w b0 h cb ds k W) (hb : Below W.heap.size W W') : CpS w b0 h cb ds k W' := by
  obtain ⟨h1, h2, h3, h4, h5, h6, h7⟩ := hc
  exact ⟨fun j d hj hx => (hb.cell (p := ⟨h, j, none⟩) h5).trans (h1 j d hj hx), fun j hj => (h2 j hj).imp fun v hv => (hb.cell (p := ⟨h, j, none⟩) h5).trans hv, fun j => (hb.frozen (p := ⟨h, j, none⟩) h5).trans (h3 j), h4.trans (hb.mono h4.size), Nat.lt_of_lt_of_le h5 hb.size, h6.next hb, h7⟩
theorem CpS.set {d : ByteArray} (hc : CpS w b0 h cb ds k W) (hw : w.heap.size ≤ h) (hk : k < ds.length) (hx : ds[k]? = some d) : CpS w b0 h cb ds (k + 1) (W.setCell ⟨h, k, none⟩ (.string d)) := by
  obtain ⟨h1, h2, h3, h4, h5, h6, h7⟩ := hc
  obtain ⟨v0, hv0⟩ := h2 k hk
  refine ⟨fun j y hj hy => ?_, fun j hj => ?_, fun j => (World.frozen?_setCell _ _ _ _).trans (h3 j), h4.setCell hw _, by simpa using h5, h6.setFar _ (fun e => h7 e.symm), h7⟩
  · rcases Nat.lt_or_ge j k with g | g
    · exact (World.cell?_setCell_other _ _ _ _ (by simp <;> omega)).trans (h1 j y g hy)
    · obtain rfl : j = k := by omega
      obtain rfl := Option.some.inj (hx.symm.trans hy)
      exact World.cell?_setCell_same _ _ _ hv0
  · by_cases e : j = k
    · subst e; exact ⟨_, World.cell?_setCell_same _ _ _ hv0⟩
    · obtain ⟨u, hu⟩ := h2 j hj
      exact ⟨u, (World.cell?_setCell_other _ _ _ _ (by simp <;> omega)).trans hu⟩
end
theorem infoStrC : (Tryd.prog.info? 9).map (fun i => (i.zero, i.size, i.bytes)) = some (some (.string ByteArray.empty), 1, 16) := by kernel_rfl
set_option maxRecDepth 100000 in
set_option maxHeartbeats 4000000 in
theorem iClaimOf_any (kk : Int) (A : Option Addr) (c : Nat) (xs : List Int) (w : World) (hx : RdC w w.heap.size A c xs) (hm : xs.length ≤ maxLen) (hT : Tab10 w) :
    Calls Tryd.prog 17 #[certV kk A xs.length c] w fun e w' => e = .returned (.string (clB kk xs)) ∧ Below w.heap.size w w' := by
  have HX : Hid (∀ W, Below w.heap.size w W → Rd (Value.int .i64) W W.heap.size A xs) := fun W hb => (hx.1.below hb).more hb.size
  have HT : Hid (∀ W, Below w.heap.size w W → Tab10 W) := fun W hb => hT.next hb
  have HB : Hid (∀ W, Below w.heap.size w W → Calls Tryd.prog 40 #[certV kk A xs.length c] W fun e w' => e = .returned (.bool (ccB kk xs)) ∧ Below W.heap.size W w') := fun W hb => iCheckCertificate_any kk A c xs W ⟨HX.out W hb, hx.2⟩ hm
  have HE : Hid (clB kk xs = if ccB kk xs = true then clK kk xs else ⟨#[]⟩) := rfl
  cases hv : ccB kk xs
  · rw [hv] at HB HE
    simp only [Bool.false_eq_true, if_false] at HE
    generalize clB kk xs = R at *
    clear hx hT hv
    unfold certV at *
    go_enter Tryd.func17, Tryd.ntmps17
    go_wp2_with fail
    refine (HB.out _ (ext1 _ _)).mono ?_
    rintro e w1 ⟨rfl, hb1⟩
    go_wp2
    go_ret
    rw [HE.out]
    exact ⟨rfl, ext_trans (ext1 _ _) hb1⟩
  · rw [hv] at HB HE
    rw [if_pos rfl] at HE
    obtain ⟨⟨k1, k2⟩, ⟨hl, hbd⟩, hc1, hc2, hc3, hc4, hc5, hc6⟩ := cc_len hv
    have HBD := Lib.hid hbd
    have HCL := Lib.hid (And.intro hc1 (And.intro hc2 (And.intro hc3 (And.intro hc4 (And.intro hc5 hc6)))))
    have HKB : Hid (1 ≤ kk ∧ kk ≤ 6) := ⟨k1, k2⟩
    obtain ⟨ds, hds⟩ : ∃ ds, xs.map decB = ds := ⟨_, rfl⟩
    have hdl : ds.length = xs.length := by rw [← hds, List.length_map]
    have HDS : Hid (∀ j x, xs[j]? = some x → ds[j]? = some (decB x)) := fun j x h => by rw [← hds, List.getElem?_map, h]; rfl
    have HDL := Lib.hid hdl
    generalize clB kk xs = R at *
    obtain ⟨i0, hi, hz0, hz1, hz2⟩ := info_parts infoStrC
    have hmk : ∀ W : World, (Instr.makeSlice 45 (.int .i64 (xs.length : Int)) (.int .i64 (xs.length : Int))).run Tryd.prog W = .ok (.slice (some ⟨W.heap.size, 0, none⟩) xs.length xs.length) (W.alloc (.cells (madeCells #[.string ByteArray.empty] xs.length) 9)) := fun W => by
      have h := run_make (P := Tryd.prog) W 45 9 i0 _ Tryd.underlying45 hi hz0 .i64 .i64 (xs.length : Int) (xs.length : Int) (by omega) (by omega) (by rw [hz2]; omega) (by omega)
      rw [hz1] at h
      simpa [Value.cells] using h
    clear hx hT hv hbd hc1 hc2 hc3 hc4 hc5 hc6 k1 k2 hds hdl hi hz0 hz1 hz2
    unfold certV at *
    have HBX := Lib.hid (BoxV.new w #[.int .i64 kk, .slice A xs.length c] 27)
    have E0 := Lib.hid (ext1 w (.cells #[.int .i64 kk, .slice A xs.length c] 27))
    go_enter Tryd.func17, Tryd.ntmps17
    go_wp2_with fail
    generalize w.alloc (.cells #[.int .i64 kk, .slice A xs.length c] 27) = W0 at *
    refine (HB.out _ E0.out).mono ?_
    rintro e w1 ⟨rfl, hb1⟩
    have B1 := Lib.hid (HBX.out.next hb1)
    have E1 := Lib.hid (ext_trans E0.out hb1)
    have x0 := B1.out.at 0 _ rfl
    have x1 := B1.out.at 1 _ rfl
    have hlt1 := B1.out.lt
    clear hb1 HBX E0 HB
    have hms : (madeCells #[.string ByteArray.empty] xs.length).size = xs.length := size_madeCells _ _
    go_wp2_with fail
    obtain ⟨W, hW, hC⟩ : ∃ W, W = w1.alloc (.cells (madeCells #[.string ByteArray.empty] xs.length) 9) ∧ CpS w w.heap.size w1.heap.size [.int .i64 kk, .slice A xs.length c] ds 0 W :=
      ⟨_, rfl, fun _ _ h => absurd h (by omega), fun j hj => by
        rw [HDL.out] at hj
        refine ⟨(madeCells #[.string ByteArray.empty] xs.length)[j]'(by rw [hms]; exact hj), ?_⟩
        rw [World.cell?_alloc_at _ _ _ _ rfl]
        exact Array.getElem?_eq_getElem (by rw [hms]; exact hj), fun j => World.frozen?_alloc_at _ _ _ _ rfl, ext_alloc E1.out _, by simp, B1.out.alloc _, by omega⟩
    rw [← hW]
    clear hW hms x0 x1 B1 E1
    have HC := Lib.hid hC
    have hge : w.heap.size ≤ w1.heap.size := by omega
    generalize w1.heap.size = h at *
    clear hC hmk hlt1
    go_loopw [16, 4, 5] (fun t u v wr => ∃ i : Nat, i ≤ xs.length ∧ t = .int .i64 i ∧ Hid (CpS w w.heap.size h [.int .i64 kk, .slice A xs.length c] ds i wr)) (fun t _ _ _ => xs.length - (intOf t).toNat)
    case atStart => exact ⟨0, by omega, rfl, HC.out⟩
    case round =>
      obtain ⟨i, hi, rfl, HR⟩ := hrel
      clear HC
      by_cases hlt : i < xs.length
      · obtain ⟨b, off, rfl, hb, hcc⟩ := HX.out wr HR.out.2.2.2.1 (by omega)
        obtain ⟨x, hxi⟩ : ∃ x, xs[i]? = some x := ⟨_, List.getElem?_eq_getElem hlt⟩
        have cx := hcc i x hxi
        obtain ⟨b1, b2⟩ := HBD.out x (List.mem_of_getElem? hxi)
        have HD := Lib.hid (iDecimal_any x wr (by omega) (by omega) (HT.out wr HR.out.2.2.2.1))
        have HX2 := Lib.hid (HDS.out i x hxi)
        have hil : i < ds.length := by rw [HDL.out]; exact hlt
        generalize decB x = q at *
        have j0 : (0 : Int) ≤ (i : Int) := by omega
        have j1 : (i : Int) < (xs.length : Int) := by omega
        clear hcc hxi
        go_wp2_with fail
        refine HD.out.mono ?_
        rintro e w3 ⟨rfl, hb3⟩
        have HR3 := Lib.hid (HR.out.next hb3)
        obtain ⟨v0, hv0⟩ := HR3.out.2.1 i hil
        have hf0 := HR3.out.2.2.1 i
        have HS := Lib.hid (CpS.set HR3.out hge hil HX2.out)
        clear hb3 hil
        go_wp2
        go_roundw
        case rel => exact ⟨i + 1, by omega, by go_num, HS.out⟩
        case measure => simp [intOf]; omega
      · have hil : i = xs.length := by omega
        subst hil
        have y0 := HR.out.2.2.2.2.2.1.at 0 _ rfl
        have y1 := HR.out.2.2.2.2.2.1.at 1 _ rfl
        obtain ⟨hc1, hc2, hc3, hc4, hc5, hc6⟩ := HCL.out
        have hkk : kk = 1 ∨ kk = 2 ∨ kk = 3 ∨ kk = 4 ∨ kk = 5 ∨ kk = 6 := by have := HKB.out; omega
        clear HKB HCL
        rcases hkk with rfl | rfl | rfl | rfl | rfl | rfl
        · skip
          have hlk : 3 ≤ xs.length := hc1 rfl
          clear hc1 hc2 hc3 hc4 hc5 hc6
          obtain ⟨x0, hx0⟩ : ∃ x, xs[0]? = some x := ⟨_, List.getElem?_eq_getElem (by omega)⟩
          obtain ⟨b0, b0'⟩ := HBD.out x0 (List.mem_of_getElem? hx0)
          have z0 := decB_size (n := x0) (by omega) (by omega)
          have hd0 : dcX xs 0 = decB x0 := by unfold dcX; simp only [List.getD, hx0, Option.getD_some]
          obtain ⟨x1, hx1⟩ : ∃ x, xs[1]? = some x := ⟨_, List.getElem?_eq_getElem (by omega)⟩
          obtain ⟨b1, b1'⟩ := HBD.out x1 (List.mem_of_getElem? hx1)
          have z1 := decB_size (n := x1) (by omega) (by omega)
          have hd1 : dcX xs 1 = decB x1 := by unfold dcX; simp only [List.getD, hx1, Option.getD_some]
          obtain ⟨x2, hx2⟩ : ∃ x, xs[2]? = some x := ⟨_, List.getElem?_eq_getElem (by omega)⟩
          obtain ⟨b2, b2'⟩ := HBD.out x2 (List.mem_of_getElem? hx2)
          have z2 := decB_size (n := x2) (by omega) (by omega)
          have hd2 : dcX xs 2 = decB x2 := by unfold dcX; simp only [List.getD, hx2, Option.getD_some]
          have s0 := HR.out.1 0 (decB x0) (by omega) (HDS.out 0 x0 hx0)
          have s1 := HR.out.1 1 (decB x1) (by omega) (HDS.out 1 x1 hx1)
          have s2 := HR.out.1 2 (decB x2) (by omega) (HDS.out 2 x2 hx2)
          have HRK : Hid (R = cl1 (decB x0) (decB x1) (decB x2)) := by
            have h := HE.out
            rw [show clK 1 xs = cl1 (dcX xs 0) (dcX xs 1) (dcX xs 2) from rfl, hd0, hd1, hd2] at h
            exact h
          clear HE HX HT HDS HBD hd0 hx0 b0 b0' hd1 hx1 b1 b1' hd2 hx2 b2 b2'
          generalize decB x0 = d0 at *
          generalize decB x1 = d1 at *
          generalize decB x2 = d2 at *
          obtain ⟨t0, t1, t2, t3, t4⟩ := clz1 d0 d1 d2 z0 z1 z2
          have HBE := Lib.hid HR.out.2.2.2.1
          unfold cl1 at HRK
          have n0 : ((0 : Int) < (xs.length : Int)) := by omega
          have n1 : ((1 : Int) < (xs.length : Int)) := by omega
          have n2 : ((2 : Int) < (xs.length : Int)) := by omega
          go_wp2_with fail
          go_quiet (fail)
          go_wp2_with fail
          go_ret
          rw [HRK.out]
          exact ⟨rfl, below_drewN' HBE.out⟩
        · skip
          have hlk : 1 ≤ xs.length := hc2 rfl
          clear hc1 hc2 hc3 hc4 hc5 hc6
          obtain ⟨x0, hx0⟩ : ∃ x, xs[0]? = some x := ⟨_, List.getElem?_eq_getElem (by omega)⟩
          obtain ⟨b0, b0'⟩ := HBD.out x0 (List.mem_of_getElem? hx0)
          have z0 := decB_size (n := x0) (by omega) (by omega)
          have hd0 : dcX xs 0 = decB x0 := by unfold dcX; simp only [List.getD, hx0, Option.getD_some]
          have s0 := HR.out.1 0 (decB x0) (by omega) (HDS.out 0 x0 hx0)
          have HRK : Hid (R = cl2 (decB x0)) := by
            have h := HE.out
            rw [show clK 2 xs = cl2 (dcX xs 0) from rfl, hd0] at h
            exact h
          clear HE HX HT HDS HBD hd0 hx0 b0 b0'
          generalize decB x0 = d0 at *
          have t0 := clz2 d0 z0
          have HBE := Lib.hid HR.out.2.2.2.1
          unfold cl2 at HRK
          have n0 : ((0 : Int) < (xs.length : Int)) := by omega
          go_wp2_with fail
          go_ret
          rw [HRK.out]
          exact ⟨rfl, HBE.out⟩
        · skip
          have hlk : 3 ≤ xs.length := hc3 rfl
          clear hc1 hc2 hc3 hc4 hc5 hc6
          obtain ⟨x0, hx0⟩ : ∃ x, xs[0]? = some x := ⟨_, List.getElem?_eq_getElem (by omega)⟩
          obtain ⟨b0, b0'⟩ := HBD.out x0 (List.mem_of_getElem? hx0)
          have z0 := decB_size (n := x0) (by omega) (by omega)
          have hd0 : dcX xs 0 = decB x0 := by unfold dcX; simp only [List.getD, hx0, Option.getD_some]
          obtain ⟨x1, hx1⟩ : ∃ x, xs[1]? = some x := ⟨_, List.getElem?_eq_getElem (by omega)⟩
          obtain ⟨b1, b1'⟩ := HBD.out x1 (List.mem_of_getElem? hx1)
          have z1 := decB_size (n := x1) (by omega) (by omega)
          have hd1 : dcX xs 1 = decB x1 := by unfold dcX; simp only [List.getD, hx1, Option.getD_some]
          obtain ⟨x2, hx2⟩ : ∃ x, xs[2]? = some x := ⟨_, List.getElem?_eq_getElem (by omega)⟩
          obtain ⟨b2, b2'⟩ := HBD.out x2 (List.mem_of_getElem? hx2)
          have z2 := decB_size (n := x2) (by omega) (by omega)
          have hd2 : dcX xs 2 = decB x2 := by unfold dcX; simp only [List.getD, hx2, Option.getD_some]
          have s0 := HR.out.1 0 (decB x0) (by omega) (HDS.out 0 x0 hx0)
          have s1 := HR.out.1 1 (decB x1) (by omega) (HDS.out 1 x1 hx1)
          have s2 := HR.out.1 2 (decB x2) (by omega) (HDS.out 2 x2 hx2)
          have HRK : Hid (R = cl3 (decB x0) (decB x1) (decB x2)) := by
            have h := HE.out
            rw [show clK 3 xs = cl3 (dcX xs 0) (dcX xs 1) (dcX xs 2) from rfl, hd0, hd1, hd2] at h
            exact h
          clear HE HX HT HDS HBD hd0 hx0 b0 b0' hd1 hx1 b1 b1' hd2 hx2 b2 b2'
          generalize decB x0 = d0 at *
          generalize decB x1 = d1 at *
          generalize decB x2 = d2 at *
          obtain ⟨t0, t1, t2, t3, t4⟩ := clz3 d0 d1 d2 z0 z1 z2
          have HBE := Lib.hid HR.out.2.2.2.1
          unfold cl3 at HRK
          have n0 : ((0 : Int) < (xs.length : Int)) := by omega
          have n1 : ((1 : Int) < (xs.length : Int)) := by omega
          have n2 : ((2 : Int) < (xs.length : Int)) := by omega
          go_wp2_with fail
          go_quiet (fail)
          go_wp2_with fail
          go_ret
          rw [HRK.out]
          exact ⟨rfl, below_drewN' HBE.out⟩
        · skip
          have hlk : 3 ≤ xs.length := hc4 rfl
          clear hc1 hc2 hc3 hc4 hc5 hc6
          obtain ⟨x0, hx0⟩ : ∃ x, xs[0]? = some x := ⟨_, List.getElem?_eq_getElem (by omega)⟩
          obtain ⟨b0, b0'⟩ := HBD.out x0 (List.mem_of_getElem? hx0)
          have z0 := decB_size (n := x0) (by omega) (by omega)
          have hd0 : dcX xs 0 = decB x0 := by unfold dcX; simp only [List.getD, hx0, Option.getD_some]
          obtain ⟨x1, hx1⟩ : ∃ x, xs[1]? = some x := ⟨_, List.getElem?_eq_getElem (by omega)⟩
          obtain ⟨b1, b1'⟩ := HBD.out x1 (List.mem_of_getElem? hx1)
          have z1 := decB_size (n := x1) (by omega) (by omega)
          have hd1 : dcX xs 1 = decB x1 := by unfold dcX; simp only [List.getD, hx1, Option.getD_some]
          obtain ⟨x2, hx2⟩ : ∃ x, xs[2]? = some x := ⟨_, List.getElem?_eq_getElem (by omega)⟩
          obtain ⟨b2, b2'⟩ := HBD.out x2 (List.mem_of_getElem? hx2)
          have z2 := decB_size (n := x2) (by omega) (by omega)
          have hd2 : dcX xs 2 = decB x2 := by unfold dcX; simp only [List.getD, hx2, Option.getD_some]
          have s0 := HR.out.1 0 (decB x0) (by omega) (HDS.out 0 x0 hx0)
          have s1 := HR.out.1 1 (decB x1) (by omega) (HDS.out 1 x1 hx1)
          have s2 := HR.out.1 2 (decB x2) (by omega) (HDS.out 2 x2 hx2)
          have HRK : Hid (R = cl4 (decB x0) (decB x1) (decB x2)) := by
            have h := HE.out
            rw [show clK 4 xs = cl4 (dcX xs 0) (dcX xs 1) (dcX xs 2) from rfl, hd0, hd1, hd2] at h
            exact h
          clear HE HX HT HDS HBD hd0 hx0 b0 b0' hd1 hx1 b1 b1' hd2 hx2 b2 b2'
          generalize decB x0 = d0 at *
          generalize decB x1 = d1 at *
          generalize decB x2 = d2 at *
          obtain ⟨t0, t1, t2, t3⟩ := clz4 d0 d1 d2 z0 z1 z2
          have HBE := Lib.hid HR.out.2.2.2.1
          unfold cl4 at HRK
          have n0 : ((0 : Int) < (xs.length : Int)) := by omega
          have n1 : ((1 : Int) < (xs.length : Int)) := by omega
          have n2 : ((2 : Int) < (xs.length : Int)) := by omega
          go_wp2_with fail
          go_quiet (fail)
          go_wp2_with fail
          go_ret
          rw [HRK.out]
          exact ⟨rfl, below_drewN' HBE.out⟩
        · skip
          have hlk : 5 ≤ xs.length := hc5 rfl
          clear hc1 hc2 hc3 hc4 hc5 hc6
          obtain ⟨x0, hx0⟩ : ∃ x, xs[0]? = some x := ⟨_, List.getElem?_eq_getElem (by omega)⟩
          obtain ⟨b0, b0'⟩ := HBD.out x0 (List.mem_of_getElem? hx0)
          have z0 := decB_size (n := x0) (by omega) (by omega)
          have hd0 : dcX xs 0 = decB x0 := by unfold dcX; simp only [List.getD, hx0, Option.getD_some]
          obtain ⟨x1, hx1⟩ : ∃ x, xs[1]? = some x := ⟨_, List.getElem?_eq_getElem (by omega)⟩
          obtain ⟨b1, b1'⟩ := HBD.out x1 (List.mem_of_getElem? hx1)
          have z1 := decB_size (n := x1) (by omega) (by omega)
          have hd1 : dcX xs 1 = decB x1 := by unfold dcX; simp only [List.getD, hx1, Option.getD_some]
          obtain ⟨x2, hx2⟩ : ∃ x, xs[2]? = some x := ⟨_, List.getElem?_eq_getElem (by omega)⟩
          obtain ⟨b2, b2'⟩ := HBD.out x2 (List.mem_of_getElem? hx2)
          have z2 := decB_size (n := x2) (by omega) (by omega)
          have hd2 : dcX xs 2 = decB x2 := by unfold dcX; simp only [List.getD, hx2, Option.getD_some]
          obtain ⟨x3, hx3⟩ : ∃ x, xs[3]? = some x := ⟨_, List.getElem?_eq_getElem (by omega)⟩
          obtain ⟨b3, b3'⟩ := HBD.out x3 (List.mem_of_getElem? hx3)
          have z3 := decB_size (n := x3) (by omega) (by omega)
          have hd3 : dcX xs 3 = decB x3 := by unfold dcX; simp only [List.getD, hx3, Option.getD_some]
          obtain ⟨x4, hx4⟩ : ∃ x, xs[4]? = some x := ⟨_, List.getElem?_eq_getElem (by omega)⟩
          obtain ⟨b4, b4'⟩ := HBD.out x4 (List.mem_of_getElem? hx4)
          have z4 := decB_size (n := x4) (by omega) (by omega)
          have hd4 : dcX xs 4 = decB x4 := by unfold dcX; simp only [List.getD, hx4, Option.getD_some]
          have s0 := HR.out.1 0 (decB x0) (by omega) (HDS.out 0 x0 hx0)
          have s1 := HR.out.1 1 (decB x1) (by omega) (HDS.out 1 x1 hx1)
          have s2 := HR.out.1 2 (decB x2) (by omega) (HDS.out 2 x2 hx2)
          have s3 := HR.out.1 3 (decB x3) (by omega) (HDS.out 3 x3 hx3)
          have s4 := HR.out.1 4 (decB x4) (by omega) (HDS.out 4 x4 hx4)
          have HRK : Hid (R = cl5 (decB x0) (decB x1) (decB x2) (decB x3) (decB x4)) := by
            have h := HE.out
            rw [show clK 5 xs = cl5 (dcX xs 0) (dcX xs 1) (dcX xs 2) (dcX xs 3) (dcX xs 4) from rfl, hd0, hd1, hd2, hd3, hd4] at h
            exact h
          clear HE HX HT HDS HBD hd0 hx0 b0 b0' hd1 hx1 b1 b1' hd2 hx2 b2 b2' hd3 hx3 b3 b3' hd4 hx4 b4 b4'
          generalize decB x0 = d0 at *
          generalize decB x1 = d1 at *
          generalize decB x2 = d2 at *
          generalize decB x3 = d3 at *
          generalize decB x4 = d4 at *
          obtain ⟨t0, t1, t2, t3, t4, t5, t6, t7, t8⟩ := clz5 d0 d1 d2 d3 d4 z0 z1 z2 z3 z4
          have HBE := Lib.hid HR.out.2.2.2.1
          unfold cl5 at HRK
          have n0 : ((0 : Int) < (xs.length : Int)) := by omega
          have n1 : ((1 : Int) < (xs.length : Int)) := by omega
          have n2 : ((2 : Int) < (xs.length : Int)) := by omega
          have n3 : ((3 : Int) < (xs.length : Int)) := by omega
          have n4 : ((4 : Int) < (xs.length : Int)) := by omega
          go_wp2_with fail
          go_quiet (fail)
          go_wp2_with fail
          go_ret
          rw [HRK.out]
          exact ⟨rfl, below_drewN' HBE.out⟩
        · skip
          have hlk : 4 ≤ xs.length := hc6 rfl
          clear hc1 hc2 hc3 hc4 hc5 hc6
          obtain ⟨x0, hx0⟩ : ∃ x, xs[0]? = some x := ⟨_, List.getElem?_eq_getElem (by omega)⟩
          obtain ⟨b0, b0'⟩ := HBD.out x0 (List.mem_of_getElem? hx0)
          have z0 := decB_size (n := x0) (by omega) (by omega)
          have hd0 : dcX xs 0 = decB x0 := by unfold dcX; simp only [List.getD, hx0, Option.getD_some]
          obtain ⟨x1, hx1⟩ : ∃ x, xs[1]? = some x := ⟨_, List.getElem?_eq_getElem (by omega)⟩
          obtain ⟨b1, b1'⟩ := HBD.out x1 (List.mem_of_getElem? hx1)
          have z1 := decB_size (n := x1) (by omega) (by omega)
          have hd1 : dcX xs 1 = decB x1 := by unfold dcX; simp only [List.getD, hx1, Option.getD_some]
          obtain ⟨x2, hx2⟩ : ∃ x, xs[2]? = some x := ⟨_, List.getElem?_eq_getElem (by omega)⟩
          obtain ⟨b2, b2'⟩ := HBD.out x2 (List.mem_of_getElem? hx2)
          have z2 := decB_size (n := x2) (by omega) (by omega)
          have hd2 : dcX xs 2 = decB x2 := by unfold dcX; simp only [List.getD, hx2, Option.getD_some]
          obtain ⟨x3, hx3⟩ : ∃ x, xs[3]? = some x := ⟨_, List.getElem?_eq_getElem (by omega)⟩
          obtain ⟨b3, b3'⟩ := HBD.out x3 (List.mem_of_getElem? hx3)
          have z3 := decB_size (n := x3) (by omega) (by omega)
          have hd3 : dcX xs 3 = decB x3 := by unfold dcX; simp only [List.getD, hx3, Option.getD_some]
          have s0 := HR.out.1 0 (decB x0) (by omega) (HDS.out 0 x0 hx0)
          have s1 := HR.out.1 1 (decB x1) (by omega) (HDS.out 1 x1 hx1)
          have s2 := HR.out.1 2 (decB x2) (by omega) (HDS.out 2 x2 hx2)
          have s3 := HR.out.1 3 (decB x3) (by omega) (HDS.out 3 x3 hx3)
          have HRK : Hid (R = cl6 (decB x0) (decB x1) (decB x2) (decB x3)) := by
            have h := HE.out
            rw [show clK 6 xs = cl6 (dcX xs 0) (dcX xs 1) (dcX xs 2) (dcX xs 3) from rfl, hd0, hd1, hd2, hd3] at h
            exact h
          clear HE HX HT HDS HBD hd0 hx0 b0 b0' hd1 hx1 b1 b1' hd2 hx2 b2 b2' hd3 hx3 b3 b3'
          generalize decB x0 = d0 at *
          generalize decB x1 = d1 at *
          generalize decB x2 = d2 at *
          generalize decB x3 = d3 at *
          obtain ⟨t0, t1, t2, t3, t4, t5⟩ := clz6 d0 d1 d2 d3 z0 z1 z2 z3
          have HBE := Lib.hid HR.out.2.2.2.1
          unfold cl6 at HRK
          have n0 : ((0 : Int) < (xs.length : Int)) := by omega
          have n1 : ((1 : Int) < (xs.length : Int)) := by omega
          have n2 : ((2 : Int) < (xs.length : Int)) := by omega
          have n3 : ((3 : Int) < (xs.length : Int)) := by omega
          go_wp2_with fail
          go_quiet (fail)
          go_wp2_with fail
          go_ret
          rw [HRK.out]
          exact ⟨rfl, below_drewN' HBE.out⟩
theorem l26Frac_any (a b : Int) (w : World) (a1 : -1000000000 ≤ a) (a2 : a ≤ 1000000000) (b1 : -1000000000 ≤ b) (b2 : b ≤ 1000000000) :
    Calls Tryd.prog 39 #[.int .i64 a, .int .i64 b] w fun e w' => e = .returned (.string (decB a ++ ({ data := #[47] } : ByteArray) ++ decB b)) ∧ Below w.heap.size w w' := by
  have HA := Lib.hid (fun W : World => l01Dec_any a W (by omega) (by omega))
  have HB := Lib.hid (fun W : World => l01Dec_any b W (by omega) (by omega))
  have z1 := decB_size (n := a) (by omega) (by omega)
  have z2 := decB_size (n := b) (by omega) (by omega)
  generalize decB a = p at *
  generalize decB b = q at *
  have t1 : (p ++ ({ data := #[47] } : ByteArray)).size ≤ 50 := by
    have l0 : ({ data := #[47] } : ByteArray).size = 1 := rfl
    rw [app_size]
    omega
  go_enter Tryd.func39, Tryd.ntmps39
  go_wp2_with fail
  refine (HA.out _).mono ?_
  rintro e w1 ⟨rfl, hb1⟩
  go_wp2_with fail
  refine (HB.out _).mono ?_
  rintro e w2 ⟨rfl, hb2⟩
  go_wp2
  go_ret
  exact ⟨rfl, ext_trans hb1 hb2⟩
theorem l07Text_any (p d q : Int) (w : World) (p1 : -1000000000 ≤ p) (p2 : p ≤ 1000000000) (d1 : -1000000000 ≤ d) (d2 : d ≤ 1000000000) (q1 : -1000000000 ≤ q) (q2 : q ≤ 1000000000) :
    Calls Tryd.prog 38 #[surdV p d q] w fun e w' => e = .returned (.string ((((((({ data := #[40] } : ByteArray) ++ decB p) ++ ({ data := #[43, 114] } : ByteArray)) ++ decB d) ++ ({ data := #[41, 47] } : ByteArray)) ++ decB q))) ∧ Below w.heap.size w w' := by
  have HA := Lib.hid (fun W : World => l01Dec_any p W (by omega) (by omega))
  have HB := Lib.hid (fun W : World => l01Dec_any d W (by omega) (by omega))
  have HC := Lib.hid (fun W : World => l01Dec_any q W (by omega) (by omega))
  have z0 := decB_size (n := p) (by omega) (by omega)
  have z1 := decB_size (n := d) (by omega) (by omega)
  have z2 := decB_size (n := q) (by omega) (by omega)
  generalize decB p = d0 at *
  generalize decB d = d1 at *
  generalize decB q = d2 at *
  have HSZ : Hid ((({ data := #[40] } : ByteArray) ++ d0).size ≤ 300 ∧ ((({ data := #[40] } : ByteArray) ++ d0) ++ ({ data := #[43, 114] } : ByteArray)).size ≤ 300 ∧ (((({ data := #[40] } : ByteArray) ++ d0) ++ ({ data := #[43, 114] } : ByteArray)) ++ d1).size ≤ 300 ∧ ((((({ data := #[40] } : ByteArray) ++ d0) ++ ({ data := #[43, 114] } : ByteArray)) ++ d1) ++ ({ data := #[41, 47] } : ByteArray)).size ≤ 300 ∧ (((((({ data := #[40] } : ByteArray) ++ d0) ++ ({ data := #[43, 114] } : ByteArray)) ++ d1) ++ ({ data := #[41, 47] } : ByteArray)) ++ d2).size ≤ 300) := by
    have l0 : ({ data := #[40] } : ByteArray).size = 1 := rfl
    have l1 : ({ data := #[43, 114] } : ByteArray).size = 2 := rfl
    have l2 : ({ data := #[41, 47] } : ByteArray).size = 2 := rfl
    unfold Hid
    simp only [app_size]
    omega
  obtain ⟨t0, t1, t2, t3, t4⟩ := HSZ.out
  have B0 := BoxV.new w #[.int .i64 p, .int .i64 d, .int .i64 q] 58
  have E0 := Lib.hid (ext1 w (.cells #[.int .i64 p, .int .i64 d, .int .i64 q] 58))
  go_enter Tryd.func38, Tryd.ntmps38
  go_wp2_with fail
  generalize w.alloc (.cells #[.int .i64 p, .int .i64 d, .int .i64 q] 58) = W0 at *
  have k0 : ∀ x os, (grow (redrawn W0 x) os).cell? ⟨w.heap.size, 0, none⟩ = some (.int .i64 p) := cell_regrown (B0.at 0 _ rfl)
  have k1 : ∀ x os, (grow (redrawn W0 x) os).cell? ⟨w.heap.size, 1, none⟩ = some (.int .i64 d) := cell_regrown (B0.at 1 _ rfl)
  have k2 : ∀ x os, (grow (redrawn W0 x) os).cell? ⟨w.heap.size, 2, none⟩ = some (.int .i64 q) := cell_regrown (B0.at 2 _ rfl)
  refine wp_region_quiet_below (by kernel_rfl) (by kernel_rfl) ?_
  repeat (first | go_big_quiet_step ((first | (with_reducible exact Calls.regrown_of (HA.out _)) | (with_reducible exact Calls.regrown_of (HB.out _)) | (with_reducible exact Calls.regrown_of (HC.out _)))) | quiet_step ((first | (with_reducible exact Calls.regrown_of (HA.out _)) | (with_reducible exact Calls.regrown_of (HB.out _)) | (with_reducible exact Calls.regrown_of (HC.out _)))))
  refine wpQuiet_nil ?_
  intro _ hw'
  obtain ⟨⟨dq, oq⟩, hw''⟩ := hw'
  subst hw''
  obtain ⟨w3, hW3⟩ : ∃ Wq, Wq = grow (redrawn W0 dq) oq := ⟨_, rfl⟩
  have hb3 : Below W0.heap.size W0 w3 := by rw [hW3]; exact below_regrown _ _ _
  rw [← hW3]
  clear hW3
  obtain ⟨hc3, hf3⟩ := bcell hb3
  have hy3 := hb3.size
  go_wp2
  go_ret
  exact ⟨rfl, ext_trans E0.out hb3⟩
set_option maxRecDepth 100000 in
set_option maxHeartbeats 4000000 in
theorem sClaimOf_any (kk : Int) (A : Option Addr) (c : Nat) (xs : List Int) (w : World) (hx : RdC w w.heap.size A c xs) (hm : xs.length ≤ maxLen) :
    Calls Tryd.prog 16 #[certV kk A xs.length c] w fun e w' => e = .returned (.string (clB kk xs)) ∧ Below w.heap.size w w' := by
  have HX : Hid (∀ W, Below w.heap.size w W → Rd (Value.int .i64) W W.heap.size A xs) := fun W hb => (hx.1.below hb).more hb.size
  have HBX := Lib.hid (BoxV.new w #[.int .i64 kk, .slice A xs.length c] 27)
  have E0 := Lib.hid (ext1 w (.cells #[.int .i64 kk, .slice A xs.length c] 27))
  have HB := Lib.hid (l26Ok_any w.heap.size kk A c xs _ ⟨HX.out _ E0.out, hx.2⟩ hm (HBX.out.at 0 _ rfl) (HBX.out.at 1 _ rfl))
  have HE : Hid (clB kk xs = if ccB kk xs = true then clK kk xs else ⟨#[]⟩) := rfl
  cases hv : ccB kk xs
  · rw [hv] at HB HE
    simp only [Bool.false_eq_true, if_false] at HE
    generalize clB kk xs = R at *
    clear hx hv HBX
    unfold certV at *
    go_enter Tryd.func16, Tryd.ntmps16
    go_wp2_with fail
    refine HB.out.mono ?_
    rintro e w1 ⟨rfl, hb1⟩
    go_wp2
    go_ret
    rw [HE.out]
    exact ⟨rfl, ext_trans E0.out hb1⟩
  · rw [hv] at HB HE
    rw [if_pos rfl] at HE
    obtain ⟨⟨k1, k2⟩, ⟨hl, hbd⟩, hc1, hc2, hc3, hc4, hc5, hc6⟩ := cc_len hv
    have HBD := Lib.hid hbd
    have hkk : kk = 1 ∨ kk = 2 ∨ kk = 3 ∨ kk = 4 ∨ kk = 5 ∨ kk = 6 := by omega
    have HCL := Lib.hid (And.intro hkk (And.intro hc1 (And.intro hc2 (And.intro hc3 (And.intro hc4 (And.intro hc5 hc6))))))
    generalize clB kk xs = R at *
    clear hx hv hbd hc1 hc2 hc3 hc4 hc5 hc6 k1 k2 hkk
    unfold certV at *
    go_enter Tryd.func16, Tryd.ntmps16
    go_wp2_with fail
    refine HB.out.mono ?_
    rintro e w1 ⟨rfl, hb1⟩
    have B1 := Lib.hid (HBX.out.next hb1)
    have E1 := Lib.hid (ext_trans E0.out hb1)
    have y0 := B1.out.at 0 _ rfl
    have y1 := B1.out.at 1 _ rfl
    clear hb1 HBX E0 HB
    obtain ⟨hkk, hc1, hc2, hc3, hc4, hc5, hc6⟩ := HCL.out
    clear HCL
    rcases hkk with rfl | rfl | rfl | rfl | rfl | rfl
    · skip
      have hlk : 3 ≤ xs.length := hc1 rfl
      clear hc1 hc2 hc3 hc4 hc5 hc6
      obtain ⟨b, off, rfl, hb, hcc⟩ := HX.out w1 E1.out (by omega)
      obtain ⟨x0, hx0⟩ : ∃ x, xs[0]? = some x := ⟨_, List.getElem?_eq_getElem (by omega)⟩
      obtain ⟨b0, b0'⟩ := HBD.out x0 (List.mem_of_getElem? hx0)
      have z0 := decB_size (n := x0) (by omega) (by omega)
      have hd0 : dcX xs 0 = decB x0 := by unfold dcX; simp only [List.getD, hx0, Option.getD_some]
      obtain ⟨x1, hx1⟩ : ∃ x, xs[1]? = some x := ⟨_, List.getElem?_eq_getElem (by omega)⟩
      obtain ⟨b1, b1'⟩ := HBD.out x1 (List.mem_of_getElem? hx1)
      have z1 := decB_size (n := x1) (by omega) (by omega)
      have hd1 : dcX xs 1 = decB x1 := by unfold dcX; simp only [List.getD, hx1, Option.getD_some]
      obtain ⟨x2, hx2⟩ : ∃ x, xs[2]? = some x := ⟨_, List.getElem?_eq_getElem (by omega)⟩
      obtain ⟨b2, b2'⟩ := HBD.out x2 (List.mem_of_getElem? hx2)
      have z2 := decB_size (n := x2) (by omega) (by omega)
      have hd2 : dcX xs 2 = decB x2 := by unfold dcX; simp only [List.getD, hx2, Option.getD_some]
      have c0 : w1.cell? ⟨b, off, none⟩ = some (.int .i64 x0) := hcc 0 x0 hx0
      have c1 : w1.cell? ⟨b, off + 1, none⟩ = some (.int .i64 x1) := hcc 1 x1 hx1
      have c2 : w1.cell? ⟨b, off + 2, none⟩ = some (.int .i64 x2) := hcc 2 x2 hx2
      have k0 : ∀ x os, (grow (redrawn w1 x) os).cell? ⟨b, off, none⟩ = some (.int .i64 x0) := cell_regrown c0
      have k1 : ∀ x os, (grow (redrawn w1 x) os).cell? ⟨b, off + 1, none⟩ = some (.int .i64 x1) := cell_regrown c1
      have k2 : ∀ x os, (grow (redrawn w1 x) os).cell? ⟨b, off + 2, none⟩ = some (.int .i64 x2) := cell_regrown c2
      have HD0 := Lib.hid (fun W : World => l01Dec_any x0 W (by omega) (by omega))
      have HD1 := Lib.hid (fun W : World => l01Dec_any x1 W (by omega) (by omega))
      have HD2 := Lib.hid (fun W : World => l01Dec_any x2 W (by omega) (by omega))
      have HRK : Hid (R = cl1 (decB x0) (decB x1) (decB x2)) := by
        have h := HE.out
        rw [show clK 1 xs = cl1 (dcX xs 0) (dcX xs 1) (dcX xs 2) from rfl, hd0, hd1, hd2] at h
        exact h
      clear HE HX HBD hcc hd0 hx0 b0 b0' hd1 hx1 b1 b1' hd2 hx2 b2 b2'
      generalize decB x0 = d0 at *
      generalize decB x1 = d1 at *
      generalize decB x2 = d2 at *
      obtain ⟨t0, t1, t2, t3, t4⟩ := clz1 d0 d1 d2 z0 z1 z2
      have n0 : ((0 : Int) < (xs.length : Int)) := by omega
      have n1 : ((1 : Int) < (xs.length : Int)) := by omega
      have n2 : ((2 : Int) < (xs.length : Int)) := by omega
      unfold cl1 at HRK
      go_wp2_with fail
      refine wp_region_quiet_below (by kernel_rfl) (by kernel_rfl) ?_
      repeat (first | go_big_quiet_step ((first | (with_reducible exact Calls.regrown_of (HD0.out _)) | (with_reducible exact Calls.regrown_of (HD1.out _)) | (with_reducible exact Calls.regrown_of (HD2.out _)))) | quiet_step ((first | (with_reducible exact Calls.regrown_of (HD0.out _)) | (with_reducible exact Calls.regrown_of (HD1.out _)) | (with_reducible exact Calls.regrown_of (HD2.out _)))))
      refine wpQuiet_nil ?_
      intro _ hw'
      obtain ⟨⟨dq, oq⟩, hw''⟩ := hw'
      subst hw''
      obtain ⟨w3, hW3⟩ : ∃ Wq, Wq = grow (redrawn w1 dq) oq := ⟨_, rfl⟩
      have hb3 : Below w1.heap.size w1 w3 := by rw [hW3]; exact below_regrown _ _ _
      rw [← hW3]
      clear hW3
      obtain ⟨hc3, hf3⟩ := bcell hb3
      have hy3 := hb3.size
      go_wp2
      go_ret
      rw [HRK.out]
      exact ⟨rfl, ext_trans E1.out hb3⟩
    · skip
      have hlk : 1 ≤ xs.length := hc2 rfl
      clear hc1 hc2 hc3 hc4 hc5 hc6
      obtain ⟨b, off, rfl, hb, hcc⟩ := HX.out w1 E1.out (by omega)
      obtain ⟨x0, hx0⟩ : ∃ x, xs[0]? = some x := ⟨_, List.getElem?_eq_getElem (by omega)⟩
      obtain ⟨b0, b0'⟩ := HBD.out x0 (List.mem_of_getElem? hx0)
      have z0 := decB_size (n := x0) (by omega) (by omega)
      have hd0 : dcX xs 0 = decB x0 := by unfold dcX; simp only [List.getD, hx0, Option.getD_some]
      have c0 : w1.cell? ⟨b, off, none⟩ = some (.int .i64 x0) := hcc 0 x0 hx0
      have k0 : ∀ x os, (grow (redrawn w1 x) os).cell? ⟨b, off, none⟩ = some (.int .i64 x0) := cell_regrown c0
      have HD0 := Lib.hid (fun W : World => l01Dec_any x0 W (by omega) (by omega))
      have HRK : Hid (R = cl2 (decB x0)) := by
        have h := HE.out
        rw [show clK 2 xs = cl2 (dcX xs 0) from rfl, hd0] at h
        exact h
      clear HE HX HBD hcc hd0 hx0 b0 b0'
      generalize decB x0 = d0 at *
      have t0 := clz2 d0 z0
      have n0 : ((0 : Int) < (xs.length : Int)) := by omega
      unfold cl2 at HRK
      go_wp2_with fail
      refine (HD0.out _).mono ?_
      rintro e w3 ⟨rfl, hb3⟩
      go_wp2
      go_ret
      rw [HRK.out]
      exact ⟨rfl, ext_trans E1.out hb3⟩
    · skip
      have hlk : 3 ≤ xs.length := hc3 rfl
      clear hc1 hc2 hc3 hc4 hc5 hc6
      obtain ⟨b, off, rfl, hb, hcc⟩ := HX.out w1 E1.out (by omega)
      obtain ⟨x0, hx0⟩ : ∃ x, xs[0]? = some x := ⟨_, List.getElem?_eq_getElem (by omega)⟩
      obtain ⟨b0, b0'⟩ := HBD.out x0 (List.mem_of_getElem? hx0)
      have z0 := decB_size (n := x0) (by omega) (by omega)
      have hd0 : dcX xs 0 = decB x0 := by unfold dcX; simp only [List.getD, hx0, Option.getD_some]
      obtain ⟨x1, hx1⟩ : ∃ x, xs[1]? = some x := ⟨_, List.getElem?_eq_getElem (by omega)⟩
      obtain ⟨b1, b1'⟩ := HBD.out x1 (List.mem_of_getElem? hx1)
      have z1 := decB_size (n := x1) (by omega) (by omega)
      have hd1 : dcX xs 1 = decB x1 := by unfold dcX; simp only [List.getD, hx1, Option.getD_some]
      obtain ⟨x2, hx2⟩ : ∃ x, xs[2]? = some x := ⟨_, List.getElem?_eq_getElem (by omega)⟩
      obtain ⟨b2, b2'⟩ := HBD.out x2 (List.mem_of_getElem? hx2)
      have z2 := decB_size (n := x2) (by omega) (by omega)
      have hd2 : dcX xs 2 = decB x2 := by unfold dcX; simp only [List.getD, hx2, Option.getD_some]
      have c0 : w1.cell? ⟨b, off, none⟩ = some (.int .i64 x0) := hcc 0 x0 hx0
      have c1 : w1.cell? ⟨b, off + 1, none⟩ = some (.int .i64 x1) := hcc 1 x1 hx1
      have c2 : w1.cell? ⟨b, off + 2, none⟩ = some (.int .i64 x2) := hcc 2 x2 hx2
      have k0 : ∀ x os, (grow (redrawn w1 x) os).cell? ⟨b, off, none⟩ = some (.int .i64 x0) := cell_regrown c0
      have k1 : ∀ x os, (grow (redrawn w1 x) os).cell? ⟨b, off + 1, none⟩ = some (.int .i64 x1) := cell_regrown c1
      have k2 : ∀ x os, (grow (redrawn w1 x) os).cell? ⟨b, off + 2, none⟩ = some (.int .i64 x2) := cell_regrown c2
      have HD0 := Lib.hid (fun W : World => l01Dec_any x0 W (by omega) (by omega))
      have HD1 := Lib.hid (fun W : World => l01Dec_any x1 W (by omega) (by omega))
      have HD2 := Lib.hid (fun W : World => l01Dec_any x2 W (by omega) (by omega))
      have HRK : Hid (R = cl3 (decB x0) (decB x1) (decB x2)) := by
        have h := HE.out
        rw [show clK 3 xs = cl3 (dcX xs 0) (dcX xs 1) (dcX xs 2) from rfl, hd0, hd1, hd2] at h
        exact h
      clear HE HX HBD hcc hd0 hx0 b0 b0' hd1 hx1 b1 b1' hd2 hx2 b2 b2'
      generalize decB x0 = d0 at *
      generalize decB x1 = d1 at *
      generalize decB x2 = d2 at *
      obtain ⟨t0, t1, t2, t3, t4⟩ := clz3 d0 d1 d2 z0 z1 z2
      have n0 : ((0 : Int) < (xs.length : Int)) := by omega
      have n1 : ((1 : Int) < (xs.length : Int)) := by omega
      have n2 : ((2 : Int) < (xs.length : Int)) := by omega
      unfold cl3 at HRK
      go_wp2_with fail
      refine wp_region_quiet_below (by kernel_rfl) (by kernel_rfl) ?_
      repeat (first | go_big_quiet_step ((first | (with_reducible exact Calls.regrown_of (HD0.out _)) | (with_reducible exact Calls.regrown_of (HD1.out _)) | (with_reducible exact Calls.regrown_of (HD2.out _)))) | quiet_step ((first | (with_reducible exact Calls.regrown_of (HD0.out _)) | (with_reducible exact Calls.regrown_of (HD1.out _)) | (with_reducible exact Calls.regrown_of (HD2.out _)))))
      refine wpQuiet_nil ?_
      intro _ hw'
      obtain ⟨⟨dq, oq⟩, hw''⟩ := hw'
      subst hw''
      obtain ⟨w3, hW3⟩ : ∃ Wq, Wq = grow (redrawn w1 dq) oq := ⟨_, rfl⟩
      have hb3 : Below w1.heap.size w1 w3 := by rw [hW3]; exact below_regrown _ _ _
      rw [← hW3]
      clear hW3
      obtain ⟨hc3, hf3⟩ := bcell hb3
      have hy3 := hb3.size
      go_wp2
      go_ret
      rw [HRK.out]
      exact ⟨rfl, ext_trans E1.out hb3⟩
    · skip
      have hlk : 3 ≤ xs.length := hc4 rfl
      clear hc1 hc2 hc3 hc4 hc5 hc6
      obtain ⟨b, off, rfl, hb, hcc⟩ := HX.out w1 E1.out (by omega)
      obtain ⟨x0, hx0⟩ : ∃ x, xs[0]? = some x := ⟨_, List.getElem?_eq_getElem (by omega)⟩
      obtain ⟨b0, b0'⟩ := HBD.out x0 (List.mem_of_getElem? hx0)
      have z0 := decB_size (n := x0) (by omega) (by omega)
      have hd0 : dcX xs 0 = decB x0 := by unfold dcX; simp only [List.getD, hx0, Option.getD_some]
      obtain ⟨x1, hx1⟩ : ∃ x, xs[1]? = some x := ⟨_, List.getElem?_eq_getElem (by omega)⟩
      obtain ⟨b1, b1'⟩ := HBD.out x1 (List.mem_of_getElem? hx1)
      have z1 := decB_size (n := x1) (by omega) (by omega)
      have hd1 : dcX xs 1 = decB x1 := by unfold dcX; simp only [List.getD, hx1, Option.getD_some]
      obtain ⟨x2, hx2⟩ : ∃ x, xs[2]? = some x := ⟨_, List.getElem?_eq_getElem (by omega)⟩
      obtain ⟨b2, b2'⟩ := HBD.out x2 (List.mem_of_getElem? hx2)
      have z2 := decB_size (n := x2) (by omega) (by omega)
      have hd2 : dcX xs 2 = decB x2 := by unfold dcX; simp only [List.getD, hx2, Option.getD_some]
      have c0 : w1.cell? ⟨b, off, none⟩ = some (.int .i64 x0) := hcc 0 x0 hx0
      have c1 : w1.cell? ⟨b, off + 1, none⟩ = some (.int .i64 x1) := hcc 1 x1 hx1
      have c2 : w1.cell? ⟨b, off + 2, none⟩ = some (.int .i64 x2) := hcc 2 x2 hx2
      have k0 : ∀ x os, (grow (redrawn w1 x) os).cell? ⟨b, off, none⟩ = some (.int .i64 x0) := cell_regrown c0
      have k1 : ∀ x os, (grow (redrawn w1 x) os).cell? ⟨b, off + 1, none⟩ = some (.int .i64 x1) := cell_regrown c1
      have k2 : ∀ x os, (grow (redrawn w1 x) os).cell? ⟨b, off + 2, none⟩ = some (.int .i64 x2) := cell_regrown c2
      have HD0 := Lib.hid (fun W : World => l01Dec_any x0 W (by omega) (by omega))
      have HD1 := Lib.hid (fun W : World => l01Dec_any x1 W (by omega) (by omega))
      have HD2 := Lib.hid (fun W : World => l01Dec_any x2 W (by omega) (by omega))
      have HRK : Hid (R = cl4 (decB x0) (decB x1) (decB x2)) := by
        have h := HE.out
        rw [show clK 4 xs = cl4 (dcX xs 0) (dcX xs 1) (dcX xs 2) from rfl, hd0, hd1, hd2] at h
        exact h
      clear HE HX HBD hcc hd0 hx0 b0 b0' hd1 hx1 b1 b1' hd2 hx2 b2 b2'
      generalize decB x0 = d0 at *
      generalize decB x1 = d1 at *
      generalize decB x2 = d2 at *
      obtain ⟨t0, t1, t2, t3⟩ := clz4 d0 d1 d2 z0 z1 z2
      have n0 : ((0 : Int) < (xs.length : Int)) := by omega
      have n1 : ((1 : Int) < (xs.length : Int)) := by omega
      have n2 : ((2 : Int) < (xs.length : Int)) := by omega
      unfold cl4 at HRK
      go_wp2_with fail
      refine wp_region_quiet_below (by kernel_rfl) (by kernel_rfl) ?_
      repeat (first | go_big_quiet_step ((first | (with_reducible exact Calls.regrown_of (HD0.out _)) | (with_reducible exact Calls.regrown_of (HD1.out _)) | (with_reducible exact Calls.regrown_of (HD2.out _)))) | quiet_step ((first | (with_reducible exact Calls.regrown_of (HD0.out _)) | (with_reducible exact Calls.regrown_of (HD1.out _)) | (with_reducible exact Calls.regrown_of (HD2.out _)))))
      refine wpQuiet_nil ?_
      intro _ hw'
      obtain ⟨⟨dq, oq⟩, hw''⟩ := hw'
      subst hw''
      obtain ⟨w3, hW3⟩ : ∃ Wq, Wq = grow (redrawn w1 dq) oq := ⟨_, rfl⟩
      have hb3 : Below w1.heap.size w1 w3 := by rw [hW3]; exact below_regrown _ _ _
      rw [← hW3]
      clear hW3
      obtain ⟨hc3, hf3⟩ := bcell hb3
      have hy3 := hb3.size
      go_wp2
      go_ret
      rw [HRK.out]
      exact ⟨rfl, ext_trans E1.out hb3⟩
    · skip
      have hlk : 5 ≤ xs.length := hc5 rfl
      clear hc1 hc2 hc3 hc4 hc5 hc6
      obtain ⟨b, off, rfl, hb, hcc⟩ := HX.out w1 E1.out (by omega)
      obtain ⟨x0, hx0⟩ : ∃ x, xs[0]? = some x := ⟨_, List.getElem?_eq_getElem (by omega)⟩
      obtain ⟨b0, b0'⟩ := HBD.out x0 (List.mem_of_getElem? hx0)
      have z0 := decB_size (n := x0) (by omega) (by omega)
      have hd0 : dcX xs 0 = decB x0 := by unfold dcX; simp only [List.getD, hx0, Option.getD_some]
      obtain ⟨x1, hx1⟩ : ∃ x, xs[1]? = some x := ⟨_, List.getElem?_eq_getElem (by omega)⟩
      obtain ⟨b1, b1'⟩ := HBD.out x1 (List.mem_of_getElem? hx1)
      have z1 := decB_size (n := x1) (by omega) (by omega)
      have hd1 : dcX xs 1 = decB x1 := by unfold dcX; simp only [List.getD, hx1, Option.getD_some]
      obtain ⟨x2, hx2⟩ : ∃ x, xs[2]? = some x := ⟨_, List.getElem?_eq_getElem (by omega)⟩
      obtain ⟨b2, b2'⟩ := HBD.out x2 (List.mem_of_getElem? hx2)
      have z2 := decB_size (n := x2) (by omega) (by omega)
      have hd2 : dcX xs 2 = decB x2 := by unfold dcX; simp only [List.getD, hx2, Option.getD_some]
      obtain ⟨x3, hx3⟩ : ∃ x, xs[3]? = some x := ⟨_, List.getElem?_eq_getElem (by omega)⟩
      obtain ⟨b3, b3'⟩ := HBD.out x3 (List.mem_of_getElem? hx3)
      have z3 := decB_size (n := x3) (by omega) (by omega)
      have hd3 : dcX xs 3 = decB x3 := by unfold dcX; simp only [List.getD, hx3, Option.getD_some]
      obtain ⟨x4, hx4⟩ : ∃ x, xs[4]? = some x := ⟨_, List.getElem?_eq_getElem (by omega)⟩
      obtain ⟨b4, b4'⟩ := HBD.out x4 (List.mem_of_getElem? hx4)
      have z4 := decB_size (n := x4) (by omega) (by omega)
      have hd4 : dcX xs 4 = decB x4 := by unfold dcX; simp only [List.getD, hx4, Option.getD_some]
      have c0 : w1.cell? ⟨b, off, none⟩ = some (.int .i64 x0) := hcc 0 x0 hx0
      have c1 : w1.cell? ⟨b, off + 1, none⟩ = some (.int .i64 x1) := hcc 1 x1 hx1
      have c2 : w1.cell? ⟨b, off + 2, none⟩ = some (.int .i64 x2) := hcc 2 x2 hx2
      have c3 : w1.cell? ⟨b, off + 3, none⟩ = some (.int .i64 x3) := hcc 3 x3 hx3
      have c4 : w1.cell? ⟨b, off + 4, none⟩ = some (.int .i64 x4) := hcc 4 x4 hx4
      have k0 : ∀ x os, (grow (redrawn w1 x) os).cell? ⟨b, off, none⟩ = some (.int .i64 x0) := cell_regrown c0
      have k1 : ∀ x os, (grow (redrawn w1 x) os).cell? ⟨b, off + 1, none⟩ = some (.int .i64 x1) := cell_regrown c1
      have k2 : ∀ x os, (grow (redrawn w1 x) os).cell? ⟨b, off + 2, none⟩ = some (.int .i64 x2) := cell_regrown c2
      have k3 : ∀ x os, (grow (redrawn w1 x) os).cell? ⟨b, off + 3, none⟩ = some (.int .i64 x3) := cell_regrown c3
      have k4 : ∀ x os, (grow (redrawn w1 x) os).cell? ⟨b, off + 4, none⟩ = some (.int .i64 x4) := cell_regrown c4
      have HS := Lib.hid (fun W : World => l07Text_any x0 x1 x2 W b0 b0' b1 b1' b2 b2')
      have HD3 := Lib.hid (fun W : World => l01Dec_any x3 W (by omega) (by omega))
      have HD4 := Lib.hid (fun W : World => l01Dec_any x4 W (by omega) (by omega))
      have HRK : Hid (R = cl5 (decB x0) (decB x1) (decB x2) (decB x3) (decB x4)) := by
        have h := HE.out
        rw [show clK 5 xs = cl5 (dcX xs 0) (dcX xs 1) (dcX xs 2) (dcX xs 3) (dcX xs 4) from rfl, hd0, hd1, hd2, hd3, hd4] at h
        exact h
      clear HE HX HBD hcc hd0 hx0 b0 b0' hd1 hx1 b1 b1' hd2 hx2 b2 b2' hd3 hx3 b3 b3' hd4 hx4 b4 b4'
      generalize decB x0 = d0 at *
      generalize decB x1 = d1 at *
      generalize decB x2 = d2 at *
      generalize decB x3 = d3 at *
      generalize decB x4 = d4 at *
      obtain ⟨t0, t1, t2, t3, t4, t5, t6, t7, t8⟩ := clz5 d0 d1 d2 d3 d4 z0 z1 z2 z3 z4
      have n0 : ((0 : Int) < (xs.length : Int)) := by omega
      have n1 : ((1 : Int) < (xs.length : Int)) := by omega
      have n2 : ((2 : Int) < (xs.length : Int)) := by omega
      have n3 : ((3 : Int) < (xs.length : Int)) := by omega
      have n4 : ((4 : Int) < (xs.length : Int)) := by omega
      unfold cl5 at HRK
      go_wp2_with fail
      refine wp_region_quiet_below (by kernel_rfl) (by kernel_rfl) ?_
      repeat (first | go_big_quiet_step ((first | (with_reducible exact Calls.regrown_of (HS.out _)) | (with_reducible exact Calls.regrown_of (HD3.out _)) | (with_reducible exact Calls.regrown_of (HD4.out _)))) | quiet_step ((first | (with_reducible exact Calls.regrown_of (HS.out _)) | (with_reducible exact Calls.regrown_of (HD3.out _)) | (with_reducible exact Calls.regrown_of (HD4.out _)))))
      refine wpQuiet_nil ?_
      intro _ hw'
      obtain ⟨⟨dq, oq⟩, hw''⟩ := hw'
      subst hw''
      obtain ⟨w3, hW3⟩ : ∃ Wq, Wq = grow (redrawn w1 dq) oq := ⟨_, rfl⟩
      have hb3 : Below w1.heap.size w1 w3 := by rw [hW3]; exact below_regrown _ _ _
      rw [← hW3]
      clear hW3
      obtain ⟨hc3, hf3⟩ := bcell hb3
      have hy3 := hb3.size
      go_wp2
      go_ret
      rw [HRK.out]
      exact ⟨rfl, ext_trans E1.out hb3⟩
    · skip
      have hlk : 4 ≤ xs.length := hc6 rfl
      clear hc1 hc2 hc3 hc4 hc5 hc6
      obtain ⟨b, off, rfl, hb, hcc⟩ := HX.out w1 E1.out (by omega)
      obtain ⟨x0, hx0⟩ : ∃ x, xs[0]? = some x := ⟨_, List.getElem?_eq_getElem (by omega)⟩
      obtain ⟨b0, b0'⟩ := HBD.out x0 (List.mem_of_getElem? hx0)
      have z0 := decB_size (n := x0) (by omega) (by omega)
      have hd0 : dcX xs 0 = decB x0 := by unfold dcX; simp only [List.getD, hx0, Option.getD_some]
      obtain ⟨x1, hx1⟩ : ∃ x, xs[1]? = some x := ⟨_, List.getElem?_eq_getElem (by omega)⟩
      obtain ⟨b1, b1'⟩ := HBD.out x1 (List.mem_of_getElem? hx1)
      have z1 := decB_size (n := x1) (by omega) (by omega)
      have hd1 : dcX xs 1 = decB x1 := by unfold dcX; simp only [List.getD, hx1, Option.getD_some]
      obtain ⟨x2, hx2⟩ : ∃ x, xs[2]? = some x := ⟨_, List.getElem?_eq_getElem (by omega)⟩
      obtain ⟨b2, b2'⟩ := HBD.out x2 (List.mem_of_getElem? hx2)
      have z2 := decB_size (n := x2) (by omega) (by omega)
      have hd2 : dcX xs 2 = decB x2 := by unfold dcX; simp only [List.getD, hx2, Option.getD_some]
      obtain ⟨x3, hx3⟩ : ∃ x, xs[3]? = some x := ⟨_, List.getElem?_eq_getElem (by omega)⟩
      obtain ⟨b3, b3'⟩ := HBD.out x3 (List.mem_of_getElem? hx3)
      have z3 := decB_size (n := x3) (by omega) (by omega)
      have hd3 : dcX xs 3 = decB x3 := by unfold dcX; simp only [List.getD, hx3, Option.getD_some]
      have c0 : w1.cell? ⟨b, off, none⟩ = some (.int .i64 x0) := hcc 0 x0 hx0
      have c1 : w1.cell? ⟨b, off + 1, none⟩ = some (.int .i64 x1) := hcc 1 x1 hx1
      have c2 : w1.cell? ⟨b, off + 2, none⟩ = some (.int .i64 x2) := hcc 2 x2 hx2
      have c3 : w1.cell? ⟨b, off + 3, none⟩ = some (.int .i64 x3) := hcc 3 x3 hx3
      have k0 : ∀ x os, (grow (redrawn w1 x) os).cell? ⟨b, off, none⟩ = some (.int .i64 x0) := cell_regrown c0
      have k1 : ∀ x os, (grow (redrawn w1 x) os).cell? ⟨b, off + 1, none⟩ = some (.int .i64 x1) := cell_regrown c1
      have k2 : ∀ x os, (grow (redrawn w1 x) os).cell? ⟨b, off + 2, none⟩ = some (.int .i64 x2) := cell_regrown c2
      have k3 : ∀ x os, (grow (redrawn w1 x) os).cell? ⟨b, off + 3, none⟩ = some (.int .i64 x3) := cell_regrown c3
      have HS := Lib.hid (fun W : World => l26Frac_any x2 x3 W b2 b2' b3 b3')
      have HS2 := Lib.hid (fun W : World => l26Frac_any x0 x1 W b0 b0' b1 b1')
      have HRK : Hid (R = cl6 (decB x0) (decB x1) (decB x2) (decB x3)) := by
        have h := HE.out
        rw [show clK 6 xs = cl6 (dcX xs 0) (dcX xs 1) (dcX xs 2) (dcX xs 3) from rfl, hd0, hd1, hd2, hd3] at h
        exact h
      clear HE HX HBD hcc hd0 hx0 b0 b0' hd1 hx1 b1 b1' hd2 hx2 b2 b2' hd3 hx3 b3 b3'
      generalize decB x0 = d0 at *
      generalize decB x1 = d1 at *
      generalize decB x2 = d2 at *
      generalize decB x3 = d3 at *
      obtain ⟨t0, t1, t2, t3, t4, t5⟩ := clz6 d0 d1 d2 d3 z0 z1 z2 z3
      have n0 : ((0 : Int) < (xs.length : Int)) := by omega
      have n1 : ((1 : Int) < (xs.length : Int)) := by omega
      have n2 : ((2 : Int) < (xs.length : Int)) := by omega
      have n3 : ((3 : Int) < (xs.length : Int)) := by omega
      rw [← cl6_assoc] at HRK
      have u0 : (d0 ++ ({ data := #[47] } : ByteArray) ++ d1).size ≤ 100 := by
        have l0 : ({ data := #[47] } : ByteArray).size = 1 := rfl
        simp only [app_size]
        omega
      have u1 : (d2 ++ ({ data := #[47] } : ByteArray) ++ d3).size ≤ 100 := by
        have l0 : ({ data := #[47] } : ByteArray).size = 1 := rfl
        simp only [app_size]
        omega
      have u2 : ((d2 ++ ({ data := #[47] } : ByteArray) ++ d3) ++ ({ data := #[32, 105, 115, 32, 98, 101, 115, 116, 32, 102, 111, 114, 32] } : ByteArray)).size ≤ 100 := by
        have l0 : ({ data := #[47] } : ByteArray).size = 1 := rfl
        have l1 : ({ data := #[32, 105, 115, 32, 98, 101, 115, 116, 32, 102, 111, 114, 32] } : ByteArray).size = 13 := rfl
        simp only [app_size]
        omega
      go_wp2_with fail
      refine wp_region_quiet_below (by kernel_rfl) (by kernel_rfl) ?_
      repeat (first | go_big_quiet_step ((first | (with_reducible exact Calls.regrown_of (HS.out _)) | (with_reducible exact Calls.regrown_of (HS2.out _)))) | quiet_step ((first | (with_reducible exact Calls.regrown_of (HS.out _)) | (with_reducible exact Calls.regrown_of (HS2.out _)))))
      refine wpQuiet_nil ?_
      intro _ hw'
      obtain ⟨⟨dq, oq⟩, hw''⟩ := hw'
      subst hw''
      obtain ⟨w3, hW3⟩ : ∃ Wq, Wq = grow (redrawn w1 dq) oq := ⟨_, rfl⟩
      have hb3 : Below w1.heap.size w1 w3 := by rw [hW3]; exact below_regrown _ _ _
      rw [← hW3]
      clear hW3
      obtain ⟨hc3, hf3⟩ := bcell hb3
      have hy3 := hb3.size
      go_wp2
      go_ret
      rw [HRK.out]
      exact ⟨rfl, ext_trans E1.out hb3⟩
end Go.Proofs.YtmgfceiomfiknaaDoor
