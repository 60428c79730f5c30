/- SameDesk: both walks. No condition but those that each theorem names. -/
import Derived.Test.YtbcmjifhnpjkoaaNamed
namespace Go.Proofs.Ytbcmjifhnpjkoaa
open Go.RowKit Go.Sort

theorem toL_inj {a b : ByteArray} (h : a.toList = b.toList) : a = b := by
  rw [ByteArray.toList_eq, ByteArray.toList_eq] at h
  exact ByteArray.ext (Array.ext' h)
theorem strEq {a b : ByteArray} (h : a = b) : (a.toList == b.toList) = true := by rw [h]; exact beq_self_eq_true _
theorem strNe {a b : ByteArray} (h : ¬ a = b) : (a.toList == b.toList) = false := by
  rw [beq_eq_false_iff_ne]
  exact fun e => h (toL_inj e)
def ndEq (x y : Nd) : Bool := decide (x.name = y.name) && decide (x.terms = y.terms)
def sameN : List Nd → List Nd → Bool
  | [], [] => true
  | x :: xs, y :: ys => ndEq x y && sameN xs ys
  | _, _ => false
theorem drop_cons {α : Type} {xs : List α} {k : Nat} {x : α} (h : xs[k]? = some x) : xs.drop k = x :: xs.drop (k + 1) := by
  obtain ⟨hl, he⟩ := List.getElem?_eq_some_iff.1 h
  rw [List.drop_eq_getElem_cons hl, he]
theorem sameN_step {xs ys : List Nd} {k : Nat} {x y : Nd} (hx : xs[k]? = some x) (hy : ys[k]? = some y) : sameN (xs.drop k) (ys.drop k) = (ndEq x y && sameN (xs.drop (k + 1)) (ys.drop (k + 1))) := by
  rw [drop_cons hx, drop_cons hy]; rfl
theorem sameN_end {xs ys : List Nd} {k : Nat} (hx : xs.length ≤ k) (hy : ys.length ≤ k) : sameN (xs.drop k) (ys.drop k) = true := by
  rw [List.drop_eq_nil_of_le hx, List.drop_eq_nil_of_le hy]; rfl
theorem sameN_len : ∀ {xs ys : List Nd}, ¬ xs.length = ys.length → sameN xs ys = false
  | [], [], h => absurd rfl h
  | [], _ :: _, _ => rfl
  | _ :: _, [], _ => rfl
  | x :: xs, y :: ys, h => by
    show (ndEq x y && sameN xs ys) = false
    rw [sameN_len (xs := xs) (ys := ys) (fun e => h (by simp [e])), Bool.and_false]

set_option maxHeartbeats 1000000 in
theorem sSameDesk_any (A B : Option Addr) (c d : Nat) (xs ys : List Nd) (w : World) (hx : RdN w w.heap.size A xs) (hy : RdN w w.heap.size B ys) (hf : ∀ x ∈ xs, x.fits) (hg : ∀ y ∈ ys, y.fits) (hl : xs.length ≤ maxLen) :
    Calls Try.prog 31 #[.agg #[.slice A xs.length c], .agg #[.slice B ys.length d]] w fun e w' => e = .returned (.bool (sameN xs ys)) ∧ Below w.heap.size w w' := by
  unfold maxLen at hl
  have HF := Lib.hid hf
  have HG := Lib.hid hg
  clear hf hg
  by_cases hlen : xs.length = ys.length
  · have hl0 : ((xs.length : Int) != (ys.length : Int)) = false := by simp [hlen]
    have hl1 : xs.length ≤ ys.length := by omega
    have hl2 : ys.length ≤ xs.length := by omega
    clear hlen
    obtain ⟨R, hR⟩ : ∃ R, sameN xs ys = R := ⟨_, rfl⟩
    rw [hR]
    have HR := Lib.hid hR
    clear hR
    go_enter Try.func31, Try.ntmps31
    go_wp2_with fail
    have q0 := cell_two_fst w #[.slice A xs.length c] #[.slice B ys.length d] 52 52 0
    have q1 := cell_two_snd w #[.slice A xs.length c] #[.slice B ys.length d] 52 52 0
    have hb0 : Below w.heap.size w ((w.alloc (.cells #[.slice A xs.length c] 52)).alloc (.cells #[.slice B ys.length d] 52)) := ext_alloc (ext_alloc (Below.refl _ _) _) _
    have hz0 : w.heap.size + 1 < ((w.alloc (.cells #[.slice A xs.length c] 52)).alloc (.cells #[.slice B ys.length d] 52)).heap.size := by simp
    generalize (w.alloc (.cells #[.slice A xs.length c] 52)).alloc (.cells #[.slice B ys.length d] 52) = W at *
    have Q0 := Lib.hid q0
    have Q1 := Lib.hid q1
    clear q0 q1
    go_loopw [5] (fun t wr => ∃ k : Nat, k ≤ xs.length ∧ t = .int .i64 k ∧ Hid (sameN (xs.drop k) (ys.drop k) = R) ∧ Below W.heap.size W wr) (fun t _ => xs.length - (intOf t).toNat)
    case atStart => exact ⟨0, by omega, rfl, HR.out, Below.refl _ _⟩
    case round =>
      obtain ⟨k, hk, rfl, HK, hbe⟩ := hrel
      have hbw := ext_trans hb0 hbe
      have m0 := (hbe.cell (p := ⟨w.heap.size, 0, none⟩) (by simp; omega)).trans Q0.out
      have m1 := (hbe.cell (p := ⟨w.heap.size + 1, 0, none⟩) (by simp; omega)).trans Q1.out
      simp only [List.getElem?_toArray, List.getElem?_cons_zero] at m0 m1
      by_cases hlt : k < xs.length
      · obtain ⟨b, off, rfl, hb, hc⟩ := (hx.next hbw) (by omega)
        obtain ⟨b', off', rfl, hb', hc'⟩ := (hy.next hbw) (by omega)
        obtain ⟨x, hxk⟩ : ∃ x, xs[k]? = some x := ⟨_, List.getElem?_eq_getElem hlt⟩
        obtain ⟨y, hyk⟩ : ∃ y, ys[k]? = some y := ⟨_, List.getElem?_eq_getElem (by omega)⟩
        obtain ⟨T, ct, c1, c2, c3⟩ := hc k x hxk
        obtain ⟨T', ct', d1, d2, d3⟩ := hc' k y hyk
        have hfx := (HF.out x (List.mem_of_getElem? hxk)).2
        have hfy := (HG.out y (List.mem_of_getElem? hyk)).2
        have HS := Lib.hid (sameN_step hxk hyk)
        have HC := Lib.hid (fun V hb => l00Same_any T T' ct ct' x.terms y.terms V (c3.1.next (w' := V) hb) (d3.1.next hb) hfx hfy)
        clear hc hc' hxk hyk c3 d3 hfx hfy
        have i0 : (0 : Int) ≤ (k : Int) := by omega
        have i1 : (k : Int) < (xs.length : Int) := by omega
        have i2 : (k : Int) < (ys.length : Int) := by omega
        have k0 : ∀ x os, (grow (redrawn wr x) os).cell? ⟨b, off + k * 2, none⟩ = _ := cell_regrown c1
        have k1 : ∀ x os, (grow (redrawn wr x) os).cell? ⟨b, off + k * 2 + 1, none⟩ = _ := cell_regrown c2
        have k2 : ∀ x os, (grow (redrawn wr x) os).cell? ⟨b', off' + k * 2, none⟩ = _ := cell_regrown d1
        have k3 : ∀ x os, (grow (redrawn wr x) os).cell? ⟨b', off' + k * 2 + 1, none⟩ = _ := cell_regrown d2
        have k4 : ∀ x os, (grow (redrawn wr x) os).cell? ⟨w.heap.size, 0, none⟩ = _ := cell_regrown m0
        have k5 : ∀ x os, (grow (redrawn wr x) os).cell? ⟨w.heap.size + 1, 0, none⟩ = _ := cell_regrown m1
        by_cases hn : x.name = y.name
        · have hn1 := strEq hn
          cases ht : decide (x.terms = y.terms)
          · rw [ht] at HC
            have HE : Hid (R = false) := by
              have h := HK.out
              rw [HS.out, ndEq, ht, Bool.and_false, Bool.false_and] at h
              exact h.symm
            clear hn ht
            go_wp2_with fail
            refine wp_region_quiet_below (by kernel_rfl) (by kernel_rfl) ?_
            repeat (first | go_big_quiet_step ((with_reducible exact Calls.regrown_of (HC.out _ (below_regrown _ _ _)))) | quiet_step ((with_reducible exact Calls.regrown_of (HC.out _ (below_regrown _ _ _)))))
            refine wpQuiet_nil ?_
            intro _ hw'
            obtain ⟨⟨dq, oq⟩, hw''⟩ := hw'
            subst hw''
            go_wp2
            go_ret
            exact ⟨ret_bool HE.out.symm, ext_trans hbw (below_regrown _ _ _)⟩
          · rw [ht] at HC
            have HE : Hid (sameN (xs.drop (k + 1)) (ys.drop (k + 1)) = R) := by
              have h := HK.out
              rw [HS.out, ndEq, ht, decide_eq_true hn, Bool.and_true, Bool.true_and] at h
              exact h
            clear hn ht
            go_wp2_with fail
            refine wp_region_quiet_below (by kernel_rfl) (by kernel_rfl) ?_
            repeat (first | go_big_quiet_step ((with_reducible exact Calls.regrown_of (HC.out _ (below_regrown _ _ _)))) | quiet_step ((with_reducible exact Calls.regrown_of (HC.out _ (below_regrown _ _ _)))))
            refine wpQuiet_nil ?_
            intro _ hw'
            obtain ⟨⟨dq, oq⟩, hw''⟩ := hw'
            subst hw''
            go_wp2
            go_roundw
            case rel => exact ⟨k + 1, by omega, by go_num, HE.out, ext_trans hbe (below_regrown _ _ _)⟩
            case measure => simp [intOf]; omega
        · have hn1 := strNe hn
          have HE : Hid (R = false) := by
            have h := HK.out
            rw [HS.out, ndEq, decide_eq_false hn, Bool.false_and, Bool.false_and] at h
            exact h.symm
          clear hn
          go_wp2_with fail
          refine wp_region_quiet_below (by kernel_rfl) (by kernel_rfl) ?_
          repeat (first | go_big_quiet_step ((fail)) | quiet_step ((fail)))
          refine wpQuiet_nil ?_
          intro _ hw'
          obtain ⟨⟨dq, oq⟩, hw''⟩ := hw'
          subst hw''
          go_wp2
          go_ret
          exact ⟨ret_bool HE.out.symm, ext_trans hbw (below_regrown _ _ _)⟩
      · have HE : Hid (R = true) := by
          rw [← HK.out]
          exact sameN_end (by omega) (by omega)
        go_wp2
        go_ret
        exact ⟨ret_bool HE.out.symm, hbw⟩
  · rw [sameN_len hlen]
    have hl0 : ((xs.length : Int) != (ys.length : Int)) = true := by simp; omega
    go_enter Try.func31, Try.ntmps31
    go_wp2
    go_ret
    exact ⟨rfl, ext_alloc (ext_alloc (Below.refl _ _) _) _⟩

set_option maxHeartbeats 1000000 in
theorem sameDeskF_any (x y : Nd) (T T' : Option Addr) (c d : Nat) (w : World) (hx : Rd (Value.int .i64) w w.heap.size T x.terms) (hy : Rd (Value.int .i64) w w.heap.size T' y.terms) (hf : x.terms.length ≤ maxLen) (hg : y.terms.length ≤ maxLen) :
    Calls Try.prog 97 #[ndV x.name T x.terms.length c, ndV y.name T' y.terms.length d] w fun e w' => e = .returned (.bool (ndEq x y)) ∧ Below w.heap.size w w' := by
  have HC := Lib.hid (fun o1 o2 : Obj => slicesEqual_any T T' c d x.terms y.terms ((w.alloc o1).alloc o2) (hx.next (ext_alloc (ext1 _ _) _)) (hy.next (ext_alloc (ext1 _ _) _)) hf hg)
  unfold ndEq
  by_cases hn : x.name = y.name
  · have hn1 := strEq hn
    rw [decide_eq_true hn, Bool.true_and]
    clear hn hx hy
    generalize decide (x.terms = y.terms) = r at *
    unfold ndV
    go_enter Try.func97, Try.ntmps97
    go_wp2_with fail
    refine (HC.out _ _).mono ?_
    rintro e w1 ⟨rfl, hb1⟩
    go_wp2
    go_ret
    exact ⟨rfl, ext_trans (ext_alloc (ext_alloc (Below.refl _ _) _) _) hb1⟩
  · have hn1 := strNe hn
    rw [decide_eq_false hn, Bool.false_and]
    clear hn hx hy
    unfold ndV
    go_enter Try.func97, Try.ntmps97
    go_wp2
    go_ret
    exact ⟨rfl, ext_alloc (ext_alloc (Below.refl _ _) _) _⟩

set_option maxHeartbeats 1000000 in
theorem equalFuncN_any (A B : Option Addr) (c d : Nat) (xs ys : List Nd) (w : World) (hx : RdN w w.heap.size A xs) (hy : RdN w w.heap.size B ys) (hf : ∀ x ∈ xs, x.fits) (hg : ∀ y ∈ ys, y.fits) (hl : xs.length ≤ maxLen) :
    Calls Try.prog 96 #[.slice A xs.length c, .slice B ys.length d, .func (Fn.func 97) #[] #[]] w fun e w' => e = .returned (.bool (sameN xs ys)) ∧ Below w.heap.size w w' := by
  unfold maxLen at hl
  have HF := Lib.hid hf
  have HG := Lib.hid hg
  clear hf hg
  by_cases hlen : xs.length = ys.length
  · have hl0 : ((xs.length : Int) != (ys.length : Int)) = false := by simp [hlen]
    have hl1 : xs.length ≤ ys.length := by omega
    have hl2 : ys.length ≤ xs.length := by omega
    clear hlen
    obtain ⟨R, hR⟩ : ∃ R, sameN xs ys = R := ⟨_, rfl⟩
    rw [hR]
    have HR := Lib.hid hR
    clear hR
    go_enter Try.func96, Try.ntmps96
    go_wp2_with fail
    go_loopw [17] (fun t wr => ∃ k : Nat, k ≤ xs.length ∧ t = .int .i64 k ∧ Hid (sameN (xs.drop k) (ys.drop k) = R) ∧ Below w.heap.size w wr) (fun t _ => xs.length - (intOf t).toNat)
    case atStart => exact ⟨0, by omega, rfl, HR.out, Below.refl _ _⟩
    case round =>
      obtain ⟨k, hk, rfl, HK, hbe⟩ := hrel
      by_cases hlt : k < xs.length
      · obtain ⟨b, off, rfl, hb, hc⟩ := (hx.next hbe) (by omega)
        obtain ⟨b', off', rfl, hb', hc'⟩ := (hy.next hbe) (by omega)
        obtain ⟨x, hxk⟩ : ∃ x, xs[k]? = some x := ⟨_, List.getElem?_eq_getElem hlt⟩
        obtain ⟨y, hyk⟩ : ∃ y, ys[k]? = some y := ⟨_, List.getElem?_eq_getElem (by omega)⟩
        obtain ⟨T, ct, c1, c2, c3⟩ := hc k x hxk
        obtain ⟨T', ct', d1, d2, d3⟩ := hc' k y hyk
        have hfx := (HF.out x (List.mem_of_getElem? hxk)).2
        have hfy := (HG.out y (List.mem_of_getElem? hyk)).2
        have HS := Lib.hid (sameN_step hxk hyk)
        have HC := Lib.hid (fun V hb => sameDeskF_any x y T T' ct ct' V (c3.1.next (w' := V) hb) (d3.1.next hb) hfx hfy)
        clear hc hc' hxk hyk c3 d3 hfx hfy
        have i0 : (0 : Int) ≤ (k : Int) := by omega
        have i1 : (k : Int) < (xs.length : Int) := by omega
        have i2 : (k : Int) < (ys.length : Int) := by omega
        cases ht : ndEq x y
        · rw [ht] at HC
          have HE : Hid (R = false) := by
            have h := HK.out
            rw [HS.out, ht, Bool.false_and] at h
            exact h.symm
          clear ht
          go_wp2_with fail
          refine (HC.out _ (ext_alloc (ext1 _ _) _)).mono ?_
          rintro e w2 ⟨rfl, hb2⟩
          go_wp2
          go_ret
          exact ⟨ret_bool HE.out.symm, ext_trans (ext_alloc (ext_alloc hbe _) _) hb2⟩
        · rw [ht] at HC
          have HE : Hid (sameN (xs.drop (k + 1)) (ys.drop (k + 1)) = R) := by
            have h := HK.out
            rw [HS.out, ht, Bool.true_and] at h
            exact h
          clear ht
          go_wp2_with fail
          refine (HC.out _ (ext_alloc (ext1 _ _) _)).mono ?_
          rintro e w2 ⟨rfl, hb2⟩
          go_wp2
          go_roundw
          case rel => exact ⟨k + 1, by omega, by go_num, HE.out, ext_trans (ext_alloc (ext_alloc hbe _) _) hb2⟩
          case measure => simp [intOf]; omega
      · have HE : Hid (R = true) := by
          rw [← HK.out]
          exact sameN_end (by omega) (by omega)
        go_wp2
        go_ret
        exact ⟨ret_bool HE.out.symm, hbe⟩
  · rw [sameN_len hlen]
    have hl0 : ((xs.length : Int) != (ys.length : Int)) = true := by simp; omega
    go_enter Try.func96, Try.ntmps96
    go_wp2
    go_ret
    exact ⟨rfl, Below.refl _ _⟩
theorem iSameDesk_any (A B : Option Addr) (c d : Nat) (xs ys : List Nd) (w : World) (hx : RdN w w.heap.size A xs) (hy : RdN w w.heap.size B ys) (hf : ∀ x ∈ xs, x.fits) (hg : ∀ y ∈ ys, y.fits) (hl : xs.length ≤ maxLen) :
    Calls Try.prog 33 #[.agg #[.slice A xs.length c], .agg #[.slice B ys.length d]] w fun e w' => e = .returned (.bool (sameN xs ys)) ∧ Below w.heap.size w w' := by
  have HC := Lib.hid (fun o1 o2 : Obj => equalFuncN_any A B c d xs ys ((w.alloc o1).alloc o2) (hx.next (ext_alloc (ext1 _ _) _)) (hy.next (ext_alloc (ext1 _ _) _)) hf hg hl)
  clear hx hy hf hg
  go_enter Try.func33, Try.ntmps33
  go_wp2_with fail
  refine (HC.out _ _).mono ?_
  rintro e w1 ⟨rfl, hb1⟩
  go_wp2
  go_ret
  exact ⟨rfl, ext_trans (ext_alloc (ext_alloc (Below.refl _ _) _) _) hb1⟩
end Go.Proofs.Ytbcmjifhnpjkoaa
