/- The first digits of a source: both walks. No condition but those that each theorem names. -/
import Derived.Test.YtgnifhegkjmgaaaDigTopW
import Derived.Test.YtgnifhegkjmgaaaCloneW
namespace Go.Proofs.Ytgnifhegkjmgaaa
open Go.RowKit Go.Sort

/-- What a call returns that tells a floor, digits and a code. -/
def RetDo (w : World) (v : Int) (xs : List Int) (c : Int) (e : Ending) (w' : World) : Prop :=
  ∃ A cap, e = .returned (.tuple #[.int .i64 v, .slice A xs.length cap, .int .i64 c]) ∧ Wr (Value.int .i64) w' w.heap.size A xs ∧ Below w.heap.size w w'
theorem RetDo.nil_ {w w' : World} {v c : Int} (h : Below w.heap.size w w') : RetDo w v [] c (.returned (.tuple #[.int .i64 v, .slice none 0 0, .int .i64 c])) w' := ⟨none, 0, rfl, fun h => absurd h (by simp), h⟩
theorem rd_tail {w : World} {B b off : Nat} {q : Int} {xs : List Int} (hb : b < B) (hc : ∀ j x, (q :: xs)[j]? = some x → w.cell? ⟨b, off + j, none⟩ = some (.int .i64 x)) : Rd (Value.int .i64) w B (some ⟨b, off + 1, none⟩) xs := fun _ =>
  ⟨b, off + 1, rfl, hb, fun j x hx => by rw [show off + 1 + j = off + (j + 1) by omega]; exact hc (j + 1) x (by simpa using hx)⟩
def doV (R : List Int × Nat × Int) : Int := R.1.getD 0 0
def doX (R : List Int × Nat × Int) : List Int := R.1.drop 1

set_option maxHeartbeats 1000000 in
theorem iDigits_bad (so : So) (H P G : Option Addr) (ch cp cg : Nat) (base count : Int) (w : World) (hr : RdSo w w.heap.size H P G so) (h0 : ¬ tdC so base count = 0) :
    Calls Try.prog 30 #[souV H so.hd.length ch P so.pd.length cp G so.gr.length cg, .int .i64 base, .int .i64 count] w (RetDo w 0 [] (tdC so base count)) := by
  have HV : Hid (∀ W : World, Below w.heap.size w W → Calls Try.prog 98 #[souV H so.hd.length ch P so.pd.length cp G so.gr.length cg] W fun e w' => e = .returned (.bool (soB so)) ∧ Below W.heap.size W w') := fun W hb => ValidSource_any so H P G ch cp cg W (hr.next hb)
  have HB := Lib.hid (isBase_any base)
  have HC := Lib.hid (within_any count 0 30)
  have HE : Hid (tdC so base count = if soB so = true then (if inR base 2 36 && inR count 0 30 then 0 else 2) else 1) := rfl
  rw [HE.out] at h0 ⊢
  clear HE hr
  unfold souV at *
  generalize so.hd.length = nh at *
  generalize so.pd.length = np at *
  generalize so.gr.length = ng at *
  generalize soB so = v at *
  generalize inR base 2 36 = b1 at *
  generalize inR count 0 30 = b2 at *
  cases v <;> cases b1 <;> cases b2
  all_goals first
    | exact absurd rfl h0
    | (clear h0
       go_enter Try.func30, Try.ntmps30
       go_wp2_with (first | (go_at_call 98; (with_reducible refine (HV.out _ (ext1 _ _)).mono ?_); rintro e w1 ⟨rfl, hb1⟩) | (go_at_call 99; (with_reducible refine (HB.out _).mono ?_); rintro e w' ⟨rfl, rfl⟩) | (go_at_call 77; (with_reducible refine (HC.out _).mono ?_); rintro e w' ⟨rfl, rfl⟩))
       first
         | exact bodyPost_ret (v := .tuple #[.int .i64 0, .slice none 0 0, .int .i64 1]) (by simp [results, Try.results30, go_sem]; done) rfl (RetDo.nil_ (ext_trans (ext1 _ _) hb1))
         | exact bodyPost_ret (v := .tuple #[.int .i64 0, .slice none 0 0, .int .i64 2]) (by simp [results, Try.results30, go_sem]; done) rfl (RetDo.nil_ (ext_trans (ext1 _ _) hb1)))
set_option maxRecDepth 100000 in
set_option maxHeartbeats 4000000 in
theorem iDigits_good (so : So) (H P G : Option Addr) (ch cp cg : Nat) (base : Int) (count : Nat) (R : List Int × Nat × Int) (w : World) (hr : RdSo w w.heap.size H P G so) (h0 : tdC so base (count : Int) = 0) (hR : DgR (tmS so) base count ⟨1, 0, 0, 1⟩ 0 [] R) :
    Calls Try.prog 30 #[souV H so.hd.length ch P so.pd.length cp G so.gr.length cg, .int .i64 base, .int .i64 (count : Int)] w (RetDo w (doV R) (doX R) R.2.2) := by
  obtain ⟨hs, hb, hc⟩ := tdC_zero h0
  obtain ⟨b1, b2⟩ := inR_true.1 hb
  obtain ⟨c1, c2⟩ := inR_true.1 hc
  have HV : Hid (∀ W : World, Below w.heap.size w W → Calls Try.prog 98 #[souV H so.hd.length ch P so.pd.length cp G so.gr.length cg] W fun e w' => e = .returned (.bool true) ∧ Below W.heap.size W w') := fun W hb => by
    have h := ValidSource_any so H P G ch cp cg W (hr.next hb)
    rwa [hs] at h
  have HB : Hid (∀ W : World, Calls Try.prog 99 #[.int .i64 base] W fun e w' => e = .returned (.bool true) ∧ W = w') := fun W => by
    have h := isBase_any base W
    rwa [hb] at h
  have HC : Hid (∀ W : World, Calls Try.prog 77 #[.int .i64 (count : Int), .int .i64 0, .int .i64 30] W fun e w' => e = .returned (.bool true) ∧ W = w') := fun W => by
    have h := within_any (count : Int) 0 30 W
    rwa [hc] at h
  have HD : Hid (∀ W : World, Below w.heap.size w W → Calls Try.prog 100 #[souV H so.hd.length ch P so.pd.length cp G so.gr.length cg, .int .i64 base, .int .i64 (count : Int)] W (RetDg W R)) := fun W h => digitsOf_any so H P G ch cp cg base count R W (hr.next h) hs b1 b2 (by omega) hR
  have HF : Hid ((R.2.2 = 0 ∧ R.1.length = count + 1) ∨ (R.1 = [] ∧ R.2.1 = 0 ∧ R.2.2 ≠ 0)) := hR.fin (by simp)
  clear hr h0 hR hs hb hc
  obtain ⟨l, m, c⟩ := R
  unfold RetDg at HD
  simp only at HD HF ⊢
  unfold souV at *
  generalize so.hd.length = nh at *
  generalize so.pd.length = np at *
  generalize so.gr.length = ng at *
  rcases HF.out with ⟨h1, h2⟩ | ⟨h1, h2⟩
  · obtain ⟨q, xs, hqx⟩ : ∃ q xs, l = q :: xs := by
      cases l with
      | nil => simp at h2
      | cons q xs => exact ⟨q, xs, rfl⟩
    subst hqx
    subst h1
    have hx30 : xs.length ≤ 30 := by simp at h2; omega
    have HQ : Hid (doV (q :: xs, m, 0) = q ∧ doX (q :: xs, m, 0) = xs) := ⟨rfl, rfl⟩
    rw [HQ.out.1, HQ.out.2]
    clear HF HQ h2
    simp only [List.length_cons] at HD
    go_enter Try.func30, Try.ntmps30
    go_wp2_with fail
    refine (HV.out _ (ext1 _ _)).mono ?_
    rintro e w1 ⟨rfl, hb1⟩
    obtain ⟨hc1, hf1⟩ := bcell hb1
    have hz1 : w.heap.size < w1.heap.size := by have := hb1.size; simp at this; omega
    have HE1 := Lib.hid (ext_trans (ext1 w (.cells #[.slice H nh ch, .slice P np cp, .slice G ng cg] 41)) hb1)
    go_wp2_with (first | (go_at_call 99; (with_reducible refine (HB.out _).mono ?_); rintro e w' ⟨rfl, rfl⟩) | (go_at_call 77; (with_reducible refine (HC.out _).mono ?_); rintro e w' ⟨rfl, rfl⟩) | (go_at_call 100; (with_reducible refine (HD.out _ HE1.out).mono ?_); rintro e w2 ⟨A2, c2, rfl, hw2, hcc2, hb2⟩; have HE2 := Lib.hid (ext_trans HE1.out hb2)))
    obtain ⟨b, off, rfl, hb0, hb, hc, hf⟩ := hw2 (by simp)
    have c0 : w2.cell? ⟨b, off, none⟩ = some (.int .i64 q) := hc 0 _ rfl
    have HRT : Hid (∀ W : World, Below w2.heap.size w2 W → Rd (Value.int .i64) W W.heap.size (some ⟨b, off + 1, none⟩) xs) := fun W h => (((rd_tail hb hc).below h).more h.size)
    have HC0 : Hid (∀ W : World, Below w2.heap.size w2 W → W.cell? ⟨b, off, none⟩ = some (.int .i64 q)) := fun W h => (h.cell (p := ⟨b, off, none⟩) hb).trans c0
    clear hw2 hc hf c0
    have hI0 : (0 : Int) ≤ (xs.length : Int) + 1 := by omega
    have hI1 : (1 : Int) ≤ ((xs.length + 1 : Nat) : Int) := by omega
    have hI2 : ((xs.length + 1 : Nat) : Int) ≤ (c2 : Int) := by omega
    have hI3 : (1 : Int) ≤ (xs.length : Int) + 1 := by omega
    have hI4 : (xs.length : Int) + 1 ≤ (c2 : Int) := by omega
    have hI5 : 0 < xs.length + 1 := by omega
    have hI6 : 1 ≤ xs.length + 1 := by omega
    have hI7 : xs.length + 1 ≤ c2 := by omega
    have hx48 : xs.length ≤ 1048576 := by omega
    by_cases hcap : c2 = 1
    · obtain rfl : xs = [] := List.eq_nil_of_length_eq_zero (by omega)
      subst hcap
      have HRT0 : Hid (∀ (W : World) (A : Option Addr), Rd (Value.int .i64) W W.heap.size A ([] : List Int)) := fun W A => Rd.nil_
      go_wp2_with fail
      go_region_held3 (fun W => W.cell? ⟨b, off, none⟩ = some (.int .i64 q))
        (exact HC0.out _ (by repeat (first | exact Below.refl _ _ | assumption | refine ext_drew ?_ | refine ext_trans ?_ (by assumption))))
        ((go_at_call 102; (refine (clone_any _ _ [] _ (HRT0.out _ _) (by simp)).mono ?_); rintro e w3 ⟨A3, c3, rfl, hw3, _, hb3⟩))
      go_wp2
      refine bodyPost_ret (v := .tuple #[.int .i64 q, .slice A3 0 c3, .int .i64 0]) (by simp [results, Try.results30, go_sem]; done) rfl ⟨A3, c3, rfl, fun h => absurd h (by simp), ext_trans (ext_drew HE2.out) hb3⟩
    · have hcp2 : ¬ (c2 - 1 = 0) := by omega
      go_wp2_with fail
      go_region_held3 (fun W => W.cell? ⟨b, off, none⟩ = some (.int .i64 q))
        (exact HC0.out _ (by repeat (first | exact Below.refl _ _ | assumption | refine ext_drew ?_ | refine ext_trans ?_ (by assumption))))
        ((go_at_call 102; (refine (clone_any (some ⟨b, off + 1, none⟩) (c2 - 1) xs _ (HRT.out _ (ext_drew (Below.refl _ _))) hx48).mono ?_); rintro e w3 ⟨A3, c3, rfl, hw3, _, hb3⟩))
      go_wp2
      refine bodyPost_ret (v := .tuple #[.int .i64 q, .slice A3 xs.length c3, .int .i64 0]) (by simp [results, Try.results30, go_sem]; done) rfl ⟨A3, c3, rfl, hw3.more (by have := HE2.out.size; simp at *; omega), ext_trans (ext_drew HE2.out) hb3⟩
  · subst h1
    have h3 : (c != 0) = true := by simpa using h2.2
    obtain rfl : m = 0 := h2.1
    have HQ : Hid (doV ([], 0, c) = 0 ∧ doX ([], 0, c) = []) := ⟨rfl, rfl⟩
    rw [HQ.out.1, HQ.out.2]
    clear HF h2 HQ
    simp only [List.length_nil] at HD
    go_enter Try.func30, Try.ntmps30
    go_wp2_with fail
    refine (HV.out _ (ext1 _ _)).mono ?_
    rintro e w1 ⟨rfl, hb1⟩
    obtain ⟨hc1, hf1⟩ := bcell hb1
    have hz1 : w.heap.size < w1.heap.size := by have := hb1.size; simp at this; omega
    have HE1 := Lib.hid (ext_trans (ext1 w (.cells #[.slice H nh ch, .slice P np cp, .slice G ng cg] 41)) hb1)
    go_wp2_with (first | (go_at_call 99; (with_reducible refine (HB.out _).mono ?_); rintro e w' ⟨rfl, rfl⟩) | (go_at_call 77; (with_reducible refine (HC.out _).mono ?_); rintro e w' ⟨rfl, rfl⟩) | (go_at_call 100; (with_reducible refine (HD.out _ HE1.out).mono ?_); rintro e w2 ⟨A2, c2, rfl, hw2, hcc2, hb2⟩; have HE2 := Lib.hid (ext_trans HE1.out hb2)))
    go_wp2
    refine bodyPost_ret (v := .tuple #[.int .i64 0, .slice none 0 0, .int .i64 c]) (by simp [results, Try.results30, go_sem]; done) rfl (RetDo.nil_ HE2.out)
set_option maxHeartbeats 1000000 in
theorem sDigits_bad (so : So) (H P G : Option Addr) (ch cp cg : Nat) (base count : Int) (w : World) (hr : RdSo w w.heap.size H P G so) (h0 : ¬ tdC so base count = 0) :
    Calls Try.prog 29 #[souV H so.hd.length ch P so.pd.length cp G so.gr.length cg, .int .i64 base, .int .i64 count] w (RetDo w 0 [] (tdC so base count)) := by
  have HV := Lib.hid (l16Code_any so w.heap.size H P G ch cp cg base count _ (hr.next (ext1 w (.cells #[.slice H so.hd.length ch, .slice P so.pd.length cp, .slice G so.gr.length cg] 41))) (SoAt.of_box (BoxV.new w #[.slice H so.hd.length ch, .slice P so.pd.length cp, .slice G so.gr.length cg] 41)))
  have h1 : (tdC so base count != 0) = true := by simpa using h0
  clear hr h0
  generalize tdC so base count = c at *
  unfold souV at *
  generalize so.hd.length = nh at *
  generalize so.pd.length = np at *
  generalize so.gr.length = ng at *
  go_enter Try.func29, Try.ntmps29
  go_wp2_with fail
  refine HV.out.mono ?_
  rintro e w1 ⟨rfl, hb1⟩
  go_wp2
  exact bodyPost_ret (v := .tuple #[.int .i64 0, .slice none 0 0, .int .i64 c]) (by simp [results, Try.results29, go_sem]; done) rfl (RetDo.nil_ (ext_trans (ext1 _ _) hb1))
set_option maxRecDepth 100000 in
set_option maxHeartbeats 4000000 in
theorem sDigits_good (so : So) (H P G : Option Addr) (ch cp cg : Nat) (base : Int) (count : Nat) (R : List Int × Nat × Int) (w : World) (hr : RdSo w w.heap.size H P G so) (h0 : tdC so base (count : Int) = 0) (hR : DgR (tmS so) base count ⟨1, 0, 0, 1⟩ 0 [] R) :
    Calls Try.prog 29 #[souV H so.hd.length ch P so.pd.length cp G so.gr.length cg, .int .i64 base, .int .i64 (count : Int)] w (RetDo w (doV R) (doX R) R.2.2) := by
  obtain ⟨hs, hb, hc⟩ := tdC_zero h0
  obtain ⟨b1, b2⟩ := inR_true.1 hb
  obtain ⟨c1, c2⟩ := inR_true.1 hc
  have HA := Lib.hid (SoAt.of_box (BoxV.new w #[.slice H so.hd.length ch, .slice P so.pd.length cp, .slice G so.gr.length cg] 41))
  have HV := Lib.hid (l16Code_any so w.heap.size H P G ch cp cg base (count : Int) _ (hr.next (ext1 w (.cells #[.slice H so.hd.length ch, .slice P so.pd.length cp, .slice G so.gr.length cg] 41))) HA.out)
  rw [h0] at HV
  have HD : Hid (∀ W : World, Below (w.alloc (.cells #[.slice H so.hd.length ch, .slice P so.pd.length cp, .slice G so.gr.length cg] 41)).heap.size (w.alloc (.cells #[.slice H so.hd.length ch, .slice P so.pd.length cp, .slice G so.gr.length cg] 41)) W → Calls Try.prog 96 #[.pointer (some ⟨w.heap.size, 0, none⟩), .int .i64 base, .int .i64 (count : Int)] W (RetDg W R)) := fun W h => l16Run_any so w.heap.size H P G ch cp cg base count R W ((hr.next (ext1 _ _)).next h) (HA.out.below h (by simp)) hs b1 b2 (by omega) hR
  have HF : Hid ((R.2.2 = 0 ∧ R.1.length = count + 1) ∨ (R.1 = [] ∧ R.2.1 = 0 ∧ R.2.2 ≠ 0)) := hR.fin (by simp)
  clear hr h0 hR hs hb hc HA
  obtain ⟨l, m, c⟩ := R
  unfold RetDg at HD
  simp only at HD HF ⊢
  unfold souV at *
  generalize so.hd.length = nh at *
  generalize so.pd.length = np at *
  generalize so.gr.length = ng at *
  rcases HF.out with ⟨h1, h2⟩ | ⟨h1, h2⟩
  · obtain ⟨q, xs, hqx⟩ : ∃ q xs, l = q :: xs := by
      cases l with
      | nil => simp at h2
      | cons q xs => exact ⟨q, xs, rfl⟩
    subst hqx
    subst h1
    have hx30 : xs.length ≤ 30 := by simp at h2; omega
    have HQ : Hid (doV (q :: xs, m, 0) = q ∧ doX (q :: xs, m, 0) = xs) := ⟨rfl, rfl⟩
    rw [HQ.out.1, HQ.out.2]
    clear HF HQ h2
    simp only [List.length_cons] at HD
    go_enter Try.func29, Try.ntmps29
    go_wp2_with fail
    refine HV.out.mono ?_
    rintro e w1 ⟨rfl, hb1⟩
    have HE1 := Lib.hid (ext_trans (ext1 w (.cells #[.slice H nh ch, .slice P np cp, .slice G ng cg] 41)) hb1)
    go_wp2_with (go_at_call 96; (with_reducible refine (HD.out _ hb1).mono ?_); rintro e w2 ⟨A2, c2, rfl, hw2, hcc2, hb2⟩; have HE2 := Lib.hid (ext_trans HE1.out hb2))
    obtain ⟨b, off, rfl, hb0, hb, hc, hf⟩ := hw2 (by simp)
    have c0 : w2.cell? ⟨b, off, none⟩ = some (.int .i64 q) := hc 0 _ rfl
    have HRT : Hid (∀ W : World, Below w2.heap.size w2 W → Rd (Value.int .i64) W W.heap.size (some ⟨b, off + 1, none⟩) xs) := fun W h => (((rd_tail hb hc).below h).more h.size)
    have HC0 : Hid (∀ W : World, Below w2.heap.size w2 W → W.cell? ⟨b, off, none⟩ = some (.int .i64 q)) := fun W h => (h.cell (p := ⟨b, off, none⟩) hb).trans c0
    clear hw2 hc hf c0
    have hI0 : (0 : Int) ≤ (xs.length : Int) + 1 := by omega
    have hI1 : (1 : Int) ≤ ((xs.length + 1 : Nat) : Int) := by omega
    have hI2 : ((xs.length + 1 : Nat) : Int) ≤ (c2 : Int) := by omega
    have hI3 : (1 : Int) ≤ (xs.length : Int) + 1 := by omega
    have hI4 : (xs.length : Int) + 1 ≤ (c2 : Int) := by omega
    have hI5 : 0 < xs.length + 1 := by omega
    have hI6 : 1 ≤ xs.length + 1 := by omega
    have hI7 : xs.length + 1 ≤ c2 := by omega
    have hx48 : xs.length ≤ 1048576 := by omega
    by_cases hcap : c2 = 1
    · obtain rfl : xs = [] := List.eq_nil_of_length_eq_zero (by omega)
      subst hcap
      have HRT0 : Hid (∀ (W : World) (A : Option Addr), Rd (Value.int .i64) W W.heap.size A ([] : List Int)) := fun W A => Rd.nil_
      go_wp2_with fail
      go_region_held3 (fun W => W.cell? ⟨b, off, none⟩ = some (.int .i64 q))
        (exact HC0.out _ (by repeat (first | exact Below.refl _ _ | assumption | refine ext_drew ?_ | refine ext_trans ?_ (by assumption))))
        ((go_at_call 101; (refine (l00Own_any _ _ [] _ (HRT0.out _ _) (by simp)).mono ?_); rintro e w3 ⟨A3, c3, rfl, hw3, _, hb3⟩))
      go_wp2
      refine bodyPost_ret (v := .tuple #[.int .i64 q, .slice A3 0 c3, .int .i64 0]) (by simp [results, Try.results29, go_sem]; done) rfl ⟨A3, c3, rfl, fun h => absurd h (by simp), ext_trans (ext_drew HE2.out) hb3⟩
    · have hcp2 : ¬ (c2 - 1 = 0) := by omega
      go_wp2_with fail
      go_region_held3 (fun W => W.cell? ⟨b, off, none⟩ = some (.int .i64 q))
        (exact HC0.out _ (by repeat (first | exact Below.refl _ _ | assumption | refine ext_drew ?_ | refine ext_trans ?_ (by assumption))))
        ((go_at_call 101; (refine (l00Own_any (some ⟨b, off + 1, none⟩) (c2 - 1) xs _ (HRT.out _ (ext_drew (Below.refl _ _))) hx48).mono ?_); rintro e w3 ⟨A3, c3, rfl, hw3, _, hb3⟩))
      go_wp2
      refine bodyPost_ret (v := .tuple #[.int .i64 q, .slice A3 xs.length c3, .int .i64 0]) (by simp [results, Try.results29, go_sem]; done) rfl ⟨A3, c3, rfl, hw3.more (by have := HE2.out.size; simp at *; omega), ext_trans (ext_drew HE2.out) hb3⟩
  · subst h1
    have h3 : (c != 0) = true := by simpa using h2.2
    obtain rfl : m = 0 := h2.1
    have HQ : Hid (doV ([], 0, c) = 0 ∧ doX ([], 0, c) = []) := ⟨rfl, rfl⟩
    rw [HQ.out.1, HQ.out.2]
    clear HF h2 HQ
    simp only [List.length_nil] at HD
    go_enter Try.func29, Try.ntmps29
    go_wp2_with fail
    refine HV.out.mono ?_
    rintro e w1 ⟨rfl, hb1⟩
    have HE1 := Lib.hid (ext_trans (ext1 w (.cells #[.slice H nh ch, .slice P np cp, .slice G ng cg] 41)) hb1)
    go_wp2_with (go_at_call 96; (with_reducible refine (HD.out _ hb1).mono ?_); rintro e w2 ⟨A2, c2, rfl, hw2, hcc2, hb2⟩; have HE2 := Lib.hid (ext_trans HE1.out hb2))
    go_wp2
    refine bodyPost_ret (v := .tuple #[.int .i64 0, .slice none 0 0, .int .i64 c]) (by simp [results, Try.results29, go_sem]; done) rfl (RetDo.nil_ HE2.out)
/-- Both sides return the same. -/
theorem digits_both (so : So) (base count : Int) : ∃ (v : Int) (xs : List Int) (c : Int), xs.length ≤ 1000 ∧ (∀ (H P G : Option Addr) (ch cp cg : Nat) (W : World), RdSo W W.heap.size H P G so → Calls Try.prog 30 #[souV H so.hd.length ch P so.pd.length cp G so.gr.length cg, .int .i64 base, .int .i64 count] W (RetDo W v xs c)) ∧
    ∀ (H P G : Option Addr) (ch cp cg : Nat) (W : World), RdSo W W.heap.size H P G so → Calls Try.prog 29 #[souV H so.hd.length ch P so.pd.length cp G so.gr.length cg, .int .i64 base, .int .i64 count] W (RetDo W v xs c) := by
  by_cases h0 : tdC so base count = 0
  · obtain ⟨hs, hb, hc⟩ := tdC_zero h0
    obtain ⟨c1, c2⟩ := inR_true.1 hc
    obtain ⟨n, rfl⟩ : ∃ n : Nat, count = (n : Int) := ⟨count.toNat, by omega⟩
    obtain ⟨R, hR⟩ := dgR_ex (T := tmS so) (base := base) (count := n) (tmS_zero hs) (fun k t ht hk => tmS_pos hs hk ht) (by omega)
    refine ⟨_, _, _, ?_, fun H P G ch cp cg W hr => iDigits_good so H P G ch cp cg base n R W hr h0 hR, fun H P G ch cp cg W hr => sDigits_good so H P G ch cp cg base n R W hr h0 hR⟩
    unfold doX
    rw [List.length_drop]
    rcases hR.fin (by simp) with ⟨_, h⟩ | ⟨h, _⟩
    · omega
    · rw [h]; simp
  · exact ⟨_, _, _, by simp, fun H P G ch cp cg W hr => iDigits_bad so H P G ch cp cg base count W hr h0, fun H P G ch cp cg W hr => sDigits_bad so H P G ch cp cg base count W hr h0⟩
end Go.Proofs.Ytgnifhegkjmgaaa
