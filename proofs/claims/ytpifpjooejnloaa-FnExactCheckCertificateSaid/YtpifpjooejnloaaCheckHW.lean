/- Certificates: which are accepted: both walks. No condition but those that each theorem names. -/
import Derived.Test.YtpifpjooejnloaaCheckFW
import Derived.Test.YtpifpjooejnloaaCheckDW
import Derived.Test.YtpifpjooejnloaaCheckGW
namespace Go.Proofs.Ytpifpjooejnloaa
open Go.RowKit Go.Sort

/-- The rule of a kind. -/
def ccK (kk : Int) (xs : List Int) : Bool := if kk = 1 then gcB xs else if kk = 2 then roB xs else if kk = 3 then liB xs else if kk = 4 then unB xs else if kk = 5 then peB xs else neB xs
/-- The certificate is accepted. -/
def ccB (kk : Int) (xs : List Int) : Bool := bdC kk xs && ccK kk xs
set_option maxRecDepth 100000 in
set_option maxHeartbeats 2000000 in
theorem iCheckCertificate_any (kk : Int) (A : Option Addr) (c : Nat) (xs : List Int) (w : World) (hx : RdC w w.heap.size A c xs) (hm : xs.length ≤ maxLen) :
    Calls Try.prog 16 #[certV kk A xs.length c] w fun e w' => e = .returned (.bool (ccB kk xs)) ∧ Below w.heap.size w w' := by
  have HX : Hid (∀ W, Below w.heap.size w W → RdC W W.heap.size A c xs) := fun W hb => ⟨(hx.1.below hb).more hb.size, hx.2⟩
  have HB : Hid (∀ W, Below w.heap.size w W → Calls Try.prog 86 #[certV kk A xs.length c] W fun e w' => e = .returned (.bool (bdC kk xs)) ∧ Below W.heap.size W w') := fun W hb => isBoundedCert_any kk A c xs W (HX.out W hb).1 hm
  have HU : Hid (ccB kk xs = (bdC kk xs && ccK kk xs)) := rfl
  rw [HU.out]
  clear HU hx
  cases hbd : bdC kk xs
  · rw [hbd] at HB
    clear hbd
    unfold certV at *
    go_enter Try.func16, Try.ntmps16
    go_wp2_with fail
    generalize hW : World.alloc (World.alloc w _) _ = W0
    have E0 : Hid (Below w.heap.size w W0) := by unfold Hid; rw [← hW]; exact ext_alloc (ext1 _ _) _
    have k0 : ∀ x os, (grow (redrawn W0 x) os).cell? ⟨w.heap.size, 0, none⟩ = some (.int .i64 kk) := cell_regrown (by rw [← hW, cell_two_fst]; rfl)
    have k1 : ∀ x os, (grow (redrawn W0 x) os).cell? ⟨w.heap.size, 1, none⟩ = some (.slice A xs.length c) := cell_regrown (by rw [← hW, cell_two_fst]; rfl)
    clear hW
    refine wp_region_quiet_below (by kernel_rfl) (by kernel_rfl) ?_
    repeat (first | go_big_quiet_step ((with_reducible exact Calls.regrown_of (HB.out _ (ext_trans E0.out (below_regrown _ _ _))))) | quiet_step ((with_reducible exact Calls.regrown_of (HB.out _ (ext_trans E0.out (below_regrown _ _ _))))))
    refine wpQuiet_nil ?_
    intro _ hw'
    obtain ⟨⟨dq, oq⟩, hw''⟩ := hw'
    subst hw''
    go_wp2
    go_ret
    exact ⟨rfl, ext_trans E0.out (below_regrown _ _ _)⟩
  · rw [hbd] at HB
    obtain ⟨hk, hn⟩ : inR kk 1 6 = true ∧ nbB xs = true := by unfold bdC at hbd; simpa using hbd
    obtain ⟨hk1, hk2⟩ := inR_true.1 hk
    obtain ⟨hn1, hn2⟩ := nbB_all hn
    have HN := Lib.hid hn2
    have h6 : kk = 1 ∨ kk = 2 ∨ kk = 3 ∨ kk = 4 ∨ kk = 5 ∨ kk = 6 := by omega
    clear hbd hk hn hn2 hk1 hk2
    rw [Bool.true_and]
    rcases h6 with rfl | rfl | rfl | rfl | rfl | rfl
    · have HC : Hid (∀ W, Below w.heap.size w W → Calls Try.prog 80 #[.slice A xs.length c] W fun e w' => e = .returned (.bool (ccK (0 + 1) xs)) ∧ Below W.heap.size W w') := fun W hb => checkGcd_any A c xs W (HX.out W hb).1 HN.out hn1
      rw [show (0 + 1 : Int) = _ from rfl] at HC
      simp only [Int.reduceAdd] at HC
      generalize ccK _ xs = R at *
      clear hn1
      unfold certV at *
      go_enter Try.func16, Try.ntmps16
      go_wp2_with fail
      generalize hW : World.alloc (World.alloc w _) _ = W0
      have E0 : Hid (Below w.heap.size w W0) := by unfold Hid; rw [← hW]; exact ext_alloc (ext1 _ _) _
      have k0 : ∀ x os, (grow (redrawn W0 x) os).cell? ⟨w.heap.size, 0, none⟩ = some (.int .i64 _) := cell_regrown (by rw [← hW, cell_two_fst]; rfl)
      have k1 : ∀ x os, (grow (redrawn W0 x) os).cell? ⟨w.heap.size, 1, none⟩ = some (.slice A xs.length c) := cell_regrown (by rw [← hW, cell_two_fst]; rfl)
      have k2 : ∀ x os, (grow (redrawn W0 x) os).cell? ⟨w.heap.size + 1, 0, none⟩ = some (.func (.func 80) #[] #[]) := cell_regrown (by rw [← hW, cell_two_snd]; rfl)
      clear hW
      refine wp_region_quiet_below (by kernel_rfl) (by kernel_rfl) ?_
      repeat (first | go_big_quiet_step ((first | (with_reducible exact Calls.regrown_of (HB.out _ (ext_trans E0.out (below_regrown _ _ _)))) | (with_reducible exact Calls.regrown_of (HC.out _ (ext_trans E0.out (below_regrown _ _ _)))))) | quiet_step ((first | (with_reducible exact Calls.regrown_of (HB.out _ (ext_trans E0.out (below_regrown _ _ _)))) | (with_reducible exact Calls.regrown_of (HC.out _ (ext_trans E0.out (below_regrown _ _ _)))))))
      refine wpQuiet_nil ?_
      intro _ hw'
      obtain ⟨⟨dq, oq⟩, hw''⟩ := hw'
      subst hw''
      go_wp2
      go_ret
      exact ⟨rfl, ext_trans E0.out (below_regrown _ _ _)⟩
    · have HC : Hid (∀ W, Below w.heap.size w W → Calls Try.prog 81 #[.slice A xs.length c] W fun e w' => e = .returned (.bool (ccK (1 + 1) xs)) ∧ Below W.heap.size W w') := fun W hb => checkRoot_any A c xs W (HX.out W hb).1 HN.out hn1
      rw [show (1 + 1 : Int) = _ from rfl] at HC
      simp only [Int.reduceAdd] at HC
      generalize ccK _ xs = R at *
      clear hn1
      unfold certV at *
      go_enter Try.func16, Try.ntmps16
      go_wp2_with fail
      generalize hW : World.alloc (World.alloc w _) _ = W0
      have E0 : Hid (Below w.heap.size w W0) := by unfold Hid; rw [← hW]; exact ext_alloc (ext1 _ _) _
      have k0 : ∀ x os, (grow (redrawn W0 x) os).cell? ⟨w.heap.size, 0, none⟩ = some (.int .i64 _) := cell_regrown (by rw [← hW, cell_two_fst]; rfl)
      have k1 : ∀ x os, (grow (redrawn W0 x) os).cell? ⟨w.heap.size, 1, none⟩ = some (.slice A xs.length c) := cell_regrown (by rw [← hW, cell_two_fst]; rfl)
      have k2 : ∀ x os, (grow (redrawn W0 x) os).cell? ⟨w.heap.size + 1, 1, none⟩ = some (.func (.func 81) #[] #[]) := cell_regrown (by rw [← hW, cell_two_snd]; rfl)
      clear hW
      refine wp_region_quiet_below (by kernel_rfl) (by kernel_rfl) ?_
      repeat (first | go_big_quiet_step ((first | (with_reducible exact Calls.regrown_of (HB.out _ (ext_trans E0.out (below_regrown _ _ _)))) | (with_reducible exact Calls.regrown_of (HC.out _ (ext_trans E0.out (below_regrown _ _ _)))))) | quiet_step ((first | (with_reducible exact Calls.regrown_of (HB.out _ (ext_trans E0.out (below_regrown _ _ _)))) | (with_reducible exact Calls.regrown_of (HC.out _ (ext_trans E0.out (below_regrown _ _ _)))))))
      refine wpQuiet_nil ?_
      intro _ hw'
      obtain ⟨⟨dq, oq⟩, hw''⟩ := hw'
      subst hw''
      go_wp2
      go_ret
      exact ⟨rfl, ext_trans E0.out (below_regrown _ _ _)⟩
    · have HC : Hid (∀ W, Below w.heap.size w W → Calls Try.prog 82 #[.slice A xs.length c] W fun e w' => e = .returned (.bool (ccK (2 + 1) xs)) ∧ Below W.heap.size W w') := fun W hb => checkLinear_any A c xs W (HX.out W hb).1 HN.out hn1
      rw [show (2 + 1 : Int) = _ from rfl] at HC
      simp only [Int.reduceAdd] at HC
      generalize ccK _ xs = R at *
      clear hn1
      unfold certV at *
      go_enter Try.func16, Try.ntmps16
      go_wp2_with fail
      generalize hW : World.alloc (World.alloc w _) _ = W0
      have E0 : Hid (Below w.heap.size w W0) := by unfold Hid; rw [← hW]; exact ext_alloc (ext1 _ _) _
      have k0 : ∀ x os, (grow (redrawn W0 x) os).cell? ⟨w.heap.size, 0, none⟩ = some (.int .i64 _) := cell_regrown (by rw [← hW, cell_two_fst]; rfl)
      have k1 : ∀ x os, (grow (redrawn W0 x) os).cell? ⟨w.heap.size, 1, none⟩ = some (.slice A xs.length c) := cell_regrown (by rw [← hW, cell_two_fst]; rfl)
      have k2 : ∀ x os, (grow (redrawn W0 x) os).cell? ⟨w.heap.size + 1, 2, none⟩ = some (.func (.func 82) #[] #[]) := cell_regrown (by rw [← hW, cell_two_snd]; rfl)
      clear hW
      refine wp_region_quiet_below (by kernel_rfl) (by kernel_rfl) ?_
      repeat (first | go_big_quiet_step ((first | (with_reducible exact Calls.regrown_of (HB.out _ (ext_trans E0.out (below_regrown _ _ _)))) | (with_reducible exact Calls.regrown_of (HC.out _ (ext_trans E0.out (below_regrown _ _ _)))))) | quiet_step ((first | (with_reducible exact Calls.regrown_of (HB.out _ (ext_trans E0.out (below_regrown _ _ _)))) | (with_reducible exact Calls.regrown_of (HC.out _ (ext_trans E0.out (below_regrown _ _ _)))))))
      refine wpQuiet_nil ?_
      intro _ hw'
      obtain ⟨⟨dq, oq⟩, hw''⟩ := hw'
      subst hw''
      go_wp2
      go_ret
      exact ⟨rfl, ext_trans E0.out (below_regrown _ _ _)⟩
    · have HC : Hid (∀ W, Below w.heap.size w W → Calls Try.prog 83 #[.slice A xs.length c] W fun e w' => e = .returned (.bool (ccK (3 + 1) xs)) ∧ Below W.heap.size W w') := fun W hb => checkUnit_any A c xs W (HX.out W hb) HN.out hn1
      rw [show (3 + 1 : Int) = _ from rfl] at HC
      simp only [Int.reduceAdd] at HC
      generalize ccK _ xs = R at *
      clear hn1
      unfold certV at *
      go_enter Try.func16, Try.ntmps16
      go_wp2_with fail
      generalize hW : World.alloc (World.alloc w _) _ = W0
      have E0 : Hid (Below w.heap.size w W0) := by unfold Hid; rw [← hW]; exact ext_alloc (ext1 _ _) _
      have k0 : ∀ x os, (grow (redrawn W0 x) os).cell? ⟨w.heap.size, 0, none⟩ = some (.int .i64 _) := cell_regrown (by rw [← hW, cell_two_fst]; rfl)
      have k1 : ∀ x os, (grow (redrawn W0 x) os).cell? ⟨w.heap.size, 1, none⟩ = some (.slice A xs.length c) := cell_regrown (by rw [← hW, cell_two_fst]; rfl)
      have k2 : ∀ x os, (grow (redrawn W0 x) os).cell? ⟨w.heap.size + 1, 3, none⟩ = some (.func (.func 83) #[] #[]) := cell_regrown (by rw [← hW, cell_two_snd]; rfl)
      clear hW
      refine wp_region_quiet_below (by kernel_rfl) (by kernel_rfl) ?_
      repeat (first | go_big_quiet_step ((first | (with_reducible exact Calls.regrown_of (HB.out _ (ext_trans E0.out (below_regrown _ _ _)))) | (with_reducible exact Calls.regrown_of (HC.out _ (ext_trans E0.out (below_regrown _ _ _)))))) | quiet_step ((first | (with_reducible exact Calls.regrown_of (HB.out _ (ext_trans E0.out (below_regrown _ _ _)))) | (with_reducible exact Calls.regrown_of (HC.out _ (ext_trans E0.out (below_regrown _ _ _)))))))
      refine wpQuiet_nil ?_
      intro _ hw'
      obtain ⟨⟨dq, oq⟩, hw''⟩ := hw'
      subst hw''
      go_wp2
      go_ret
      exact ⟨rfl, ext_trans E0.out (below_regrown _ _ _)⟩
    · have HC : Hid (∀ W, Below w.heap.size w W → Calls Try.prog 84 #[.slice A xs.length c] W fun e w' => e = .returned (.bool (ccK (4 + 1) xs)) ∧ Below W.heap.size W w') := fun W hb => checkPeriod_any A c xs W (HX.out W hb) HN.out hn1
      rw [show (4 + 1 : Int) = _ from rfl] at HC
      simp only [Int.reduceAdd] at HC
      generalize ccK _ xs = R at *
      clear hn1
      unfold certV at *
      go_enter Try.func16, Try.ntmps16
      go_wp2_with fail
      generalize hW : World.alloc (World.alloc w _) _ = W0
      have E0 : Hid (Below w.heap.size w W0) := by unfold Hid; rw [← hW]; exact ext_alloc (ext1 _ _) _
      have k0 : ∀ x os, (grow (redrawn W0 x) os).cell? ⟨w.heap.size, 0, none⟩ = some (.int .i64 _) := cell_regrown (by rw [← hW, cell_two_fst]; rfl)
      have k1 : ∀ x os, (grow (redrawn W0 x) os).cell? ⟨w.heap.size, 1, none⟩ = some (.slice A xs.length c) := cell_regrown (by rw [← hW, cell_two_fst]; rfl)
      have k2 : ∀ x os, (grow (redrawn W0 x) os).cell? ⟨w.heap.size + 1, 4, none⟩ = some (.func (.func 84) #[] #[]) := cell_regrown (by rw [← hW, cell_two_snd]; rfl)
      clear hW
      refine wp_region_quiet_below (by kernel_rfl) (by kernel_rfl) ?_
      repeat (first | go_big_quiet_step ((first | (with_reducible exact Calls.regrown_of (HB.out _ (ext_trans E0.out (below_regrown _ _ _)))) | (with_reducible exact Calls.regrown_of (HC.out _ (ext_trans E0.out (below_regrown _ _ _)))))) | quiet_step ((first | (with_reducible exact Calls.regrown_of (HB.out _ (ext_trans E0.out (below_regrown _ _ _)))) | (with_reducible exact Calls.regrown_of (HC.out _ (ext_trans E0.out (below_regrown _ _ _)))))))
      refine wpQuiet_nil ?_
      intro _ hw'
      obtain ⟨⟨dq, oq⟩, hw''⟩ := hw'
      subst hw''
      go_wp2
      go_ret
      exact ⟨rfl, ext_trans E0.out (below_regrown _ _ _)⟩
    · have HC : Hid (∀ W, Below w.heap.size w W → Calls Try.prog 85 #[.slice A xs.length c] W fun e w' => e = .returned (.bool (ccK (5 + 1) xs)) ∧ Below W.heap.size W w') := fun W hb => checkNearest_any A c xs W (HX.out W hb).1 HN.out hn1
      rw [show (5 + 1 : Int) = _ from rfl] at HC
      simp only [Int.reduceAdd] at HC
      generalize ccK _ xs = R at *
      clear hn1
      unfold certV at *
      go_enter Try.func16, Try.ntmps16
      go_wp2_with fail
      generalize hW : World.alloc (World.alloc w _) _ = W0
      have E0 : Hid (Below w.heap.size w W0) := by unfold Hid; rw [← hW]; exact ext_alloc (ext1 _ _) _
      have k0 : ∀ x os, (grow (redrawn W0 x) os).cell? ⟨w.heap.size, 0, none⟩ = some (.int .i64 _) := cell_regrown (by rw [← hW, cell_two_fst]; rfl)
      have k1 : ∀ x os, (grow (redrawn W0 x) os).cell? ⟨w.heap.size, 1, none⟩ = some (.slice A xs.length c) := cell_regrown (by rw [← hW, cell_two_fst]; rfl)
      have k2 : ∀ x os, (grow (redrawn W0 x) os).cell? ⟨w.heap.size + 1, 5, none⟩ = some (.func (.func 85) #[] #[]) := cell_regrown (by rw [← hW, cell_two_snd]; rfl)
      clear hW
      refine wp_region_quiet_below (by kernel_rfl) (by kernel_rfl) ?_
      repeat (first | go_big_quiet_step ((first | (with_reducible exact Calls.regrown_of (HB.out _ (ext_trans E0.out (below_regrown _ _ _)))) | (with_reducible exact Calls.regrown_of (HC.out _ (ext_trans E0.out (below_regrown _ _ _)))))) | quiet_step ((first | (with_reducible exact Calls.regrown_of (HB.out _ (ext_trans E0.out (below_regrown _ _ _)))) | (with_reducible exact Calls.regrown_of (HC.out _ (ext_trans E0.out (below_regrown _ _ _)))))))
      refine wpQuiet_nil ?_
      intro _ hw'
      obtain ⟨⟨dq, oq⟩, hw''⟩ := hw'
      subst hw''
      go_wp2
      go_ret
      exact ⟨rfl, ext_trans E0.out (below_regrown _ _ _)⟩
set_option maxRecDepth 100000 in
set_option maxHeartbeats 2000000 in
theorem l26Ok_any (g : Nat) (kk : Int) (A : Option Addr) (c : Nat) (xs : List Int) (w : World) (hx : RdC w w.heap.size A c xs) (hm : xs.length ≤ maxLen) (c0 : w.cell? ⟨g, 0, none⟩ = some (.int .i64 kk)) (c1 : w.cell? ⟨g, 1, none⟩ = some (.slice A xs.length c)) :
    Calls Try.prog 78 #[.pointer (some ⟨g, 0, none⟩)] w fun e w' => e = .returned (.bool (ccB kk xs)) ∧ Below w.heap.size w w' := by
  have HX : Hid (RdC w w.heap.size A c xs) := hx
  have HF := Lib.hid (l26Fits_any g A c xs w hx.1 hm c1)
  have EB := Lib.hid (Below.refl w.heap.size w)
  have HU : Hid (ccB kk xs = (nbB xs && (inR kk 1 6 && ccK kk xs))) := by unfold Hid ccB bdC; rw [Bool.and_comm (inR kk 1 6), Bool.and_assoc]
  rw [HU.out]
  clear HU hx
  cases hn : nbB xs
  · rw [hn] at HF
    clear hn
    go_enter Try.func78, Try.ntmps78
    go_wp2_with (go_at_call 155; (with_reducible refine HF.out.mono ?_); rintro e w' ⟨rfl, rfl⟩)
    go_ret
    exact ⟨rfl, EB.out⟩
  · rw [hn] at HF
    obtain ⟨hn1, hn2⟩ := nbB_all hn
    have HN := Lib.hid hn2
    rw [Bool.true_and]
    clear hn hn2
    by_cases h6 : kk = 1 ∨ kk = 2 ∨ kk = 3 ∨ kk = 4 ∨ kk = 5 ∨ kk = 6
    · rcases h6 with rfl | rfl | rfl | rfl | rfl | rfl
      · have HC : Hid (Calls Try.prog 156 #[.slice A xs.length c] w fun e w' => e = .returned (.bool (inR (0 + 1) 1 6 && ccK (0 + 1) xs)) ∧ Below w.heap.size w w') := l26Gcd_any A c xs w HX.out.1 HN.out hn1
        simp only [Int.reduceAdd] at HC
        generalize (inR _ 1 6 && ccK _ xs) = R at *
        clear hn1
        go_enter Try.func78, Try.ntmps78
        go_wp2_with (go_at_call 155; (with_reducible refine HF.out.mono ?_); rintro e w' ⟨rfl, rfl⟩)
        refine HC.out.mono ?_
        rintro e w1 ⟨rfl, hb⟩
        go_wp2
        go_ret
        exact ⟨rfl, hb⟩
      · have HC : Hid (Calls Try.prog 157 #[.slice A xs.length c] w fun e w' => e = .returned (.bool (inR (1 + 1) 1 6 && ccK (1 + 1) xs)) ∧ Below w.heap.size w w') := l26Root_any A c xs w HX.out.1 HN.out hn1
        simp only [Int.reduceAdd] at HC
        generalize (inR _ 1 6 && ccK _ xs) = R at *
        clear hn1
        go_enter Try.func78, Try.ntmps78
        go_wp2_with (go_at_call 155; (with_reducible refine HF.out.mono ?_); rintro e w' ⟨rfl, rfl⟩)
        refine HC.out.mono ?_
        rintro e w1 ⟨rfl, hb⟩
        go_wp2
        go_ret
        exact ⟨rfl, hb⟩
      · have HC : Hid (Calls Try.prog 158 #[.slice A xs.length c] w fun e w' => e = .returned (.bool (inR (2 + 1) 1 6 && ccK (2 + 1) xs)) ∧ Below w.heap.size w w') := l26Linear_any A c xs w HX.out.1 HN.out hn1
        simp only [Int.reduceAdd] at HC
        generalize (inR _ 1 6 && ccK _ xs) = R at *
        clear hn1
        go_enter Try.func78, Try.ntmps78
        go_wp2_with (go_at_call 155; (with_reducible refine HF.out.mono ?_); rintro e w' ⟨rfl, rfl⟩)
        refine HC.out.mono ?_
        rintro e w1 ⟨rfl, hb⟩
        go_wp2
        go_ret
        exact ⟨rfl, hb⟩
      · have HC : Hid (Calls Try.prog 159 #[.slice A xs.length c] w fun e w' => e = .returned (.bool (inR (3 + 1) 1 6 && ccK (3 + 1) xs)) ∧ Below w.heap.size w w') := l26Unit_any A c xs w HX.out HN.out hn1
        simp only [Int.reduceAdd] at HC
        generalize (inR _ 1 6 && ccK _ xs) = R at *
        clear hn1
        go_enter Try.func78, Try.ntmps78
        go_wp2_with (go_at_call 155; (with_reducible refine HF.out.mono ?_); rintro e w' ⟨rfl, rfl⟩)
        refine HC.out.mono ?_
        rintro e w1 ⟨rfl, hb⟩
        go_wp2
        go_ret
        exact ⟨rfl, hb⟩
      · have HC : Hid (Calls Try.prog 160 #[.slice A xs.length c] w fun e w' => e = .returned (.bool (inR (4 + 1) 1 6 && ccK (4 + 1) xs)) ∧ Below w.heap.size w w') := l26Period_any A c xs w HX.out HN.out hn1
        simp only [Int.reduceAdd] at HC
        generalize (inR _ 1 6 && ccK _ xs) = R at *
        clear hn1
        go_enter Try.func78, Try.ntmps78
        go_wp2_with (go_at_call 155; (with_reducible refine HF.out.mono ?_); rintro e w' ⟨rfl, rfl⟩)
        refine HC.out.mono ?_
        rintro e w1 ⟨rfl, hb⟩
        go_wp2
        go_ret
        exact ⟨rfl, hb⟩
      · have HC : Hid (Calls Try.prog 161 #[.slice A xs.length c] w fun e w' => e = .returned (.bool (inR (5 + 1) 1 6 && ccK (5 + 1) xs)) ∧ Below w.heap.size w w') := l26Best_any A c xs w HX.out.1 HN.out hn1
        simp only [Int.reduceAdd] at HC
        generalize (inR _ 1 6 && ccK _ xs) = R at *
        clear hn1
        go_enter Try.func78, Try.ntmps78
        go_wp2_with (go_at_call 155; (with_reducible refine HF.out.mono ?_); rintro e w' ⟨rfl, rfl⟩)
        refine HC.out.mono ?_
        rintro e w1 ⟨rfl, hb⟩
        go_wp2
        go_ret
        exact ⟨rfl, hb⟩
    · have e1 : (kk == 1) = false := by simp; omega
      have e2 : (kk == 2) = false := by simp; omega
      have e3 : (kk == 3) = false := by simp; omega
      have e4 : (kk == 4) = false := by simp; omega
      have e5 : (kk == 5) = false := by simp; omega
      have e6 : (kk == 6) = false := by simp; omega
      have HR : Hid ((inR kk 1 6 && ccK kk xs) = false) := by
        unfold Hid
        rw [show inR kk 1 6 = false from inR_false.2 (by omega)]
        rfl
      rw [HR.out]
      clear h6
      go_enter Try.func78, Try.ntmps78
      go_wp2_with (go_at_call 155; (with_reducible refine HF.out.mono ?_); rintro e w' ⟨rfl, rfl⟩)
      go_ret
      exact ⟨rfl, EB.out⟩
theorem sCheckCertificate_any (kk : Int) (A : Option Addr) (c : Nat) (xs : List Int) (w : World) (hx : RdC w w.heap.size A c xs) (hm : xs.length ≤ maxLen) :
    Calls Try.prog 14 #[certV kk A xs.length c] w fun e w' => e = .returned (.bool (ccB kk xs)) ∧ Below w.heap.size w w' := by
  have HC : Hid (Calls Try.prog 78 #[.pointer (some ⟨w.heap.size, 0, none⟩)] (w.alloc (.cells #[.int .i64 kk, .slice A xs.length c] 27)) fun e w' => e = .returned (.bool (ccB kk xs)) ∧ Below (w.alloc (.cells #[.int .i64 kk, .slice A xs.length c] 27)).heap.size (w.alloc (.cells #[.int .i64 kk, .slice A xs.length c] 27)) w') :=
    l26Ok_any w.heap.size kk A c xs _ ⟨(hx.1.below (ext1 _ _)).more (by simp), hx.2⟩ hm (by rw [cell_one]; rfl) (by rw [cell_one]; rfl)
  clear hx
  unfold certV
  go_enter Try.func14, Try.ntmps14
  go_wp2_with fail
  refine HC.out.mono ?_
  rintro e w1 ⟨rfl, hb⟩
  go_wp2
  go_ret
  exact ⟨rfl, ext_trans (ext1 _ _) hb⟩
end Go.Proofs.Ytpifpjooejnloaa
