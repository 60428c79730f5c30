/- How many terms the first digits of a source need: both walks. No condition but those that each theorem names. -/
import Derived.Test.YtgnifhegkjmgaaaDigIW
import Derived.Test.YtgnifhegkjmgaaaDigRW
namespace Go.Proofs.Ytgnifhegkjmgaaa
open Go.RowKit Go.Sort

/-- The code of a source, a base and a number of digits. -/
def tdC (so : So) (base count : Int) : Int := if soB so = true then (if inR base 2 36 && inR count 0 30 then 0 else 2) else 1
theorem tdC_zero {so : So} {base count : Int} (h : tdC so base count = 0) : soB so = true ∧ inR base 2 36 = true ∧ inR count 0 30 = true := by
  unfold tdC at h
  split at h
  · rename_i h1
    split at h
    · rename_i h2
      rw [Bool.and_eq_true] at h2
      exact ⟨h1, h2⟩
    · omega
  · omega
theorem l16Code_any (so : So) (gx : Nat) (H P G : Option Addr) (ch cp cg : Nat) (base count : Int) (w : World) (hr : RdSo w w.heap.size H P G so) (ha : SoAt w gx H P G ch cp cg so) :
    Calls Try.prog 95 #[.pointer (some ⟨gx, 0, none⟩), .int .i64 base, .int .i64 count] w fun e w' => e = .returned (.int .i64 (tdC so base count)) ∧ Below w.heap.size w w' := by
  have HV := Lib.hid (l15Ok_any so gx H P G ch cp cg w hr ha)
  have HB := Lib.hid (l16Base_any base)
  have HC := Lib.hid (l00In_any count 0 30)
  have HE : Hid (tdC so base count = if soB so = true then (if inR base 2 36 && inR count 0 30 then 0 else 2) else 1) := rfl
  rw [HE.out]
  clear HE hr ha
  generalize soB so = v at *
  generalize inR base 2 36 = b1 at *
  generalize inR count 0 30 = b2 at *
  cases v <;> cases b1 <;> cases b2
  all_goals
    go_enter Try.func95, Try.ntmps95
    go_wp2_with (first | (go_at_call 158; (with_reducible refine HV.out.mono ?_); rintro e w1 ⟨rfl, hb1⟩) | (go_at_call 159; (with_reducible refine (HB.out _).mono ?_); rintro e w' ⟨rfl, rfl⟩) | (go_at_call 92; (with_reducible refine (HC.out _).mono ?_); rintro e w' ⟨rfl, rfl⟩))
    go_ret
    exact ⟨rfl, hb1⟩
set_option maxHeartbeats 1000000 in
theorem iTerms_bad (so : So) (H P G : Option Addr) (ch cp cg : Nat) (base count : Int) (w : World) (hr : RdSo w w.heap.size H P G so) (h0 : ¬ tdC so base count = 0) :
    Calls Try.prog 27 #[souV H so.hd.length ch P so.pd.length cp G so.gr.length cg, .int .i64 base, .int .i64 count] w fun e w' => e = .returned (.tuple #[.int .i64 0, .int .i64 (tdC so base count)]) ∧ Below w.heap.size w w' := by
  have HV : Hid (∀ W : World, Below w.heap.size w W → Calls Try.prog 98 #[souV H so.hd.length ch P so.pd.length cp G so.gr.length cg] W fun e w' => e = .returned (.bool (soB so)) ∧ Below W.heap.size W w') := fun W hb => ValidSource_any so H P G ch cp cg W (hr.next hb)
  have HB := Lib.hid (isBase_any base)
  have HC := Lib.hid (within_any count 0 30)
  have HE : Hid (tdC so base count = if soB so = true then (if inR base 2 36 && inR count 0 30 then 0 else 2) else 1) := rfl
  rw [HE.out] at h0 ⊢
  clear HE hr
  unfold souV at *
  generalize so.hd.length = nh at *
  generalize so.pd.length = np at *
  generalize so.gr.length = ng at *
  generalize soB so = v at *
  generalize inR base 2 36 = b1 at *
  generalize inR count 0 30 = b2 at *
  cases v <;> cases b1 <;> cases b2
  all_goals first
    | exact absurd rfl h0
    | (clear h0
       go_enter Try.func27, Try.ntmps27
       go_wp2_with (first | (go_at_call 98; (with_reducible refine (HV.out _ (ext1 _ _)).mono ?_); rintro e w1 ⟨rfl, hb1⟩) | (go_at_call 99; (with_reducible refine (HB.out _).mono ?_); rintro e w' ⟨rfl, rfl⟩) | (go_at_call 77; (with_reducible refine (HC.out _).mono ?_); rintro e w' ⟨rfl, rfl⟩))
       go_ret2
       exact ⟨rfl, ext_trans (ext1 _ _) hb1⟩)
set_option maxHeartbeats 1000000 in
theorem iTerms_good (so : So) (H P G : Option Addr) (ch cp cg : Nat) (base : Int) (count : Nat) (R : List Int × Nat × Int) (w : World) (hr : RdSo w w.heap.size H P G so) (h0 : tdC so base (count : Int) = 0) (hR : DgR (tmS so) base count ⟨1, 0, 0, 1⟩ 0 [] R) :
    Calls Try.prog 27 #[souV H so.hd.length ch P so.pd.length cp G so.gr.length cg, .int .i64 base, .int .i64 (count : Int)] w fun e w' => e = .returned (.tuple #[.int .i64 (R.2.1 : Int), .int .i64 R.2.2]) ∧ Below w.heap.size w w' := by
  obtain ⟨hs, hb, hc⟩ := tdC_zero h0
  obtain ⟨b1, b2⟩ := inR_true.1 hb
  obtain ⟨c1, c2⟩ := inR_true.1 hc
  have HV : Hid (∀ W : World, Below w.heap.size w W → Calls Try.prog 98 #[souV H so.hd.length ch P so.pd.length cp G so.gr.length cg] W fun e w' => e = .returned (.bool true) ∧ Below W.heap.size W w') := fun W hb => by
    have h := ValidSource_any so H P G ch cp cg W (hr.next hb)
    rwa [hs] at h
  have HB : Hid (∀ W : World, Calls Try.prog 99 #[.int .i64 base] W fun e w' => e = .returned (.bool true) ∧ W = w') := fun W => by
    have h := isBase_any base W
    rwa [hb] at h
  have HC : Hid (∀ W : World, Calls Try.prog 77 #[.int .i64 (count : Int), .int .i64 0, .int .i64 30] W fun e w' => e = .returned (.bool true) ∧ W = w') := fun W => by
    have h := within_any (count : Int) 0 30 W
    rwa [hc] at h
  have HD : Hid (∀ W : World, Below w.heap.size w W → Calls Try.prog 100 #[souV H so.hd.length ch P so.pd.length cp G so.gr.length cg, .int .i64 base, .int .i64 (count : Int)] W (RetDg W R)) := fun W h => digitsOf_any so H P G ch cp cg base count R W (hr.next h) hs b1 b2 (by omega) hR
  clear hr h0 hR hs hb hc
  unfold RetDg at HD
  generalize R.2.1 = m at *
  generalize R.2.2 = c at *
  unfold souV at *
  generalize so.hd.length = nh at *
  generalize so.pd.length = np at *
  generalize so.gr.length = ng at *
  go_enter Try.func27, Try.ntmps27
  go_wp2_with fail
  refine (HV.out _ (ext1 _ _)).mono ?_
  rintro e w1 ⟨rfl, hb1⟩
  obtain ⟨hc1, hf1⟩ := bcell hb1
  have hz1 : w.heap.size < w1.heap.size := by have := hb1.size; simp at this; omega
  have HE1 := Lib.hid (ext_trans (ext1 w (.cells #[.slice H nh ch, .slice P np cp, .slice G ng cg] 41)) hb1)
  go_wp2_with (first | (go_at_call 99; (with_reducible refine (HB.out _).mono ?_); rintro e w' ⟨rfl, rfl⟩) | (go_at_call 77; (with_reducible refine (HC.out _).mono ?_); rintro e w' ⟨rfl, rfl⟩) | (go_at_call 100; (with_reducible refine (HD.out _ HE1.out).mono ?_); rintro e w2 ⟨A2, c2, rfl, hw2, _, hb2⟩; have HE2 := Lib.hid (ext_trans HE1.out hb2)))
  go_ret2
  exact ⟨rfl, HE2.out⟩
set_option maxHeartbeats 1000000 in
theorem sTerms_bad (so : So) (H P G : Option Addr) (ch cp cg : Nat) (base count : Int) (w : World) (hr : RdSo w w.heap.size H P G so) (h0 : ¬ tdC so base count = 0) :
    Calls Try.prog 25 #[souV H so.hd.length ch P so.pd.length cp G so.gr.length cg, .int .i64 base, .int .i64 count] w fun e w' => e = .returned (.tuple #[.int .i64 0, .int .i64 (tdC so base count)]) ∧ Below w.heap.size w w' := by
  have HV := Lib.hid (l16Code_any so w.heap.size H P G ch cp cg base count _ (hr.next (ext1 w (.cells #[.slice H so.hd.length ch, .slice P so.pd.length cp, .slice G so.gr.length cg] 41))) (SoAt.of_box (BoxV.new w #[.slice H so.hd.length ch, .slice P so.pd.length cp, .slice G so.gr.length cg] 41)))
  have h1 : (tdC so base count != 0) = true := by simpa using h0
  clear hr h0
  generalize tdC so base count = c at *
  unfold souV at *
  generalize so.hd.length = nh at *
  generalize so.pd.length = np at *
  generalize so.gr.length = ng at *
  go_enter Try.func25, Try.ntmps25
  go_wp2_with fail
  refine HV.out.mono ?_
  rintro e w1 ⟨rfl, hb1⟩
  go_wp2
  go_ret2
  exact ⟨rfl, ext_trans (ext1 _ _) hb1⟩
set_option maxHeartbeats 1000000 in
theorem sTerms_good (so : So) (H P G : Option Addr) (ch cp cg : Nat) (base : Int) (count : Nat) (R : List Int × Nat × Int) (w : World) (hr : RdSo w w.heap.size H P G so) (h0 : tdC so base (count : Int) = 0) (hR : DgR (tmS so) base count ⟨1, 0, 0, 1⟩ 0 [] R) :
    Calls Try.prog 25 #[souV H so.hd.length ch P so.pd.length cp G so.gr.length cg, .int .i64 base, .int .i64 (count : Int)] w fun e w' => e = .returned (.tuple #[.int .i64 (R.2.1 : Int), .int .i64 R.2.2]) ∧ Below w.heap.size w w' := by
  obtain ⟨hs, hb, hc⟩ := tdC_zero h0
  obtain ⟨b1, b2⟩ := inR_true.1 hb
  obtain ⟨c1, c2⟩ := inR_true.1 hc
  have HA := Lib.hid (SoAt.of_box (BoxV.new w #[.slice H so.hd.length ch, .slice P so.pd.length cp, .slice G so.gr.length cg] 41))
  have HV := Lib.hid (l16Code_any so w.heap.size H P G ch cp cg base (count : Int) _ (hr.next (ext1 w (.cells #[.slice H so.hd.length ch, .slice P so.pd.length cp, .slice G so.gr.length cg] 41))) HA.out)
  rw [h0] at HV
  have HD : Hid (∀ W : World, Below (w.alloc (.cells #[.slice H so.hd.length ch, .slice P so.pd.length cp, .slice G so.gr.length cg] 41)).heap.size (w.alloc (.cells #[.slice H so.hd.length ch, .slice P so.pd.length cp, .slice G so.gr.length cg] 41)) W → Calls Try.prog 96 #[.pointer (some ⟨w.heap.size, 0, none⟩), .int .i64 base, .int .i64 (count : Int)] W (RetDg W R)) := fun W h => l16Run_any so w.heap.size H P G ch cp cg base count R W ((hr.next (ext1 _ _)).next h) (HA.out.below h (by simp)) hs b1 b2 (by omega) hR
  have HF : Hid ((R.2.2 = 0) ∨ (R.2.1 = 0 ∧ R.2.2 ≠ 0)) := by
    rcases hR.fin (by simp) with ⟨h, _⟩ | ⟨_, h1, h2⟩
    · exact .inl h
    · exact .inr ⟨h1, h2⟩
  clear hr h0 hR hs hb hc HA
  unfold RetDg at HD
  generalize R.2.1 = m at *
  generalize R.2.2 = c at *
  unfold souV at *
  generalize so.hd.length = nh at *
  generalize so.pd.length = np at *
  generalize so.gr.length = ng at *
  rcases HF.out with h1 | ⟨h1, h2⟩
  · subst h1
    clear HF
    go_enter Try.func25, Try.ntmps25
    go_wp2_with fail
    refine HV.out.mono ?_
    rintro e w1 ⟨rfl, hb1⟩
    go_wp2_with (go_at_call 96; (with_reducible refine (HD.out _ hb1).mono ?_); rintro e w2 ⟨A2, c2, rfl, hw2, _, hb2⟩)
    go_ret2
    exact ⟨rfl, ext_trans (ext_trans (ext1 _ _) hb1) hb2⟩
  · subst h1
    have h3 : (c != 0) = true := by simpa using h2
    clear HF h2
    go_enter Try.func25, Try.ntmps25
    go_wp2_with fail
    refine HV.out.mono ?_
    rintro e w1 ⟨rfl, hb1⟩
    go_wp2_with (go_at_call 96; (with_reducible refine (HD.out _ hb1).mono ?_); rintro e w2 ⟨A2, c2, rfl, hw2, _, hb2⟩)
    go_ret2
    exact ⟨rfl, ext_trans (ext_trans (ext1 _ _) hb1) hb2⟩
/-- Both sides return the same. -/
theorem terms_both (so : So) (base count : Int) : ∃ v c : Int, (∀ (H P G : Option Addr) (ch cp cg : Nat) (W : World), RdSo W W.heap.size H P G so → Calls Try.prog 27 #[souV H so.hd.length ch P so.pd.length cp G so.gr.length cg, .int .i64 base, .int .i64 count] W fun e w' => e = .returned (.tuple #[.int .i64 v, .int .i64 c]) ∧ Below W.heap.size W w') ∧
    ∀ (H P G : Option Addr) (ch cp cg : Nat) (W : World), RdSo W W.heap.size H P G so → Calls Try.prog 25 #[souV H so.hd.length ch P so.pd.length cp G so.gr.length cg, .int .i64 base, .int .i64 count] W fun e w' => e = .returned (.tuple #[.int .i64 v, .int .i64 c]) ∧ Below W.heap.size W w' := by
  by_cases h0 : tdC so base count = 0
  · obtain ⟨hs, hb, hc⟩ := tdC_zero h0
    obtain ⟨c1, c2⟩ := inR_true.1 hc
    obtain ⟨n, rfl⟩ : ∃ n : Nat, count = (n : Int) := ⟨count.toNat, by omega⟩
    obtain ⟨R, hR⟩ := dgR_ex (T := tmS so) (base := base) (count := n) (tmS_zero hs) (fun k t ht hk => by
      by_cases hk2 : k ≤ 1000000
      · exact (tmS_bd hs hk2 ht).2.2 hk
      · exact tmS_pos hs hk ht) (by omega)
    exact ⟨_, _, fun H P G ch cp cg W hr => iTerms_good so H P G ch cp cg base n R W hr h0 hR, fun H P G ch cp cg W hr => sTerms_good so H P G ch cp cg base n R W hr h0 hR⟩
  · exact ⟨_, _, fun H P G ch cp cg W hr => iTerms_bad so H P G ch cp cg base count W hr h0, fun H P G ch cp cg W hr => sTerms_bad so H P G ch cp cg base count W hr h0⟩
end Go.Proofs.Ytgnifhegkjmgaaa
