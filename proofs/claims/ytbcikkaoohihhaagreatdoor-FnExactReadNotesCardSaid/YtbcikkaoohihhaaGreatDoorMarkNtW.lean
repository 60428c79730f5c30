/- Marks on slices of notes: the walks. No condition but those that each theorem names. -/
import Derived.Test.YtbcikkaoohihhaaGreatDoorMarkNtP
namespace Go.Proofs.YtbcikkaoohihhaaGreatDoor
open Go.RowKit Go.Sort

set_option maxRecDepth 100000 in
set_option maxHeartbeats 1000000 in
theorem markNoteS_any (A : Option Addr) (c : Nat) (xs : List Nt) (base top : Nat) (k : Int) (w : World) (hx : WrNd w base top A xs) (hm : posN xs xs.length ≤ 100000000) (hk : 1 ≤ k) (hk' : k ≤ 1000) :
    Calls Tryz.prog 8 #[.slice A xs.length c, .int .i64 k] w fun e w' => e = .returned (.int .i64 (k + posN xs xs.length)) ∧ WrNd w' base top A (mkNts xs k) ∧ Below base w w' ∧ w.heap.size ≤ w'.heap.size ∧ ∀ B, top ≤ B → B < w.heap.size → w'.heap[B]? = w.heap[B]? := by
  rcases Nat.eq_zero_or_pos xs.length with h0 | h0
  · obtain rfl : xs = [] := List.eq_nil_of_length_eq_zero h0
    have ht := Lib.hid hx.1
    clear hx
    go_enter Tryz.func8, Tryz.ntmps8
    go_wp2
    refine wp_loop_rounds 1 ?_
    rw [rounds_succ]
    go_wp2
    go_ret
    exact ⟨by simp [posN], ⟨ht.out, fun h => absurd h (by simp [mkNts])⟩, Below.refl _ _, Nat.le_refl _, fun _ _ _ => rfl⟩
  · obtain ⟨b, off, own, rfl, hb, hbt, hf, hown, hc⟩ := hx.2 h0
    have htop := hx.1
    have H0 := Lib.hid (MkN.start (k := k) hf hc)
    have HOW := Lib.hid hown
    have hlen := posN_len xs xs.length (Nat.le_refl _)
    have HPL := Lib.hid (fun i => posN_le xs i)
    clear hf hc hown hx
    have hxl : xs.length ≤ 100000000 := by omega
    clear hlen
    go_enter Tryz.func8, Tryz.ntmps8
    go_wp2
    go_loopw [5, 1] (fun t m wr => ∃ (i : Nat) (q : Int), i ≤ xs.length ∧ t = .int .i64 i ∧ m = .int .i64 q ∧ 1 ≤ q ∧ q ≤ 200000000 ∧ Hid (q = k + posN xs i) ∧ Hid (MkN w base top b off own xs k i wr)) (fun t _ _ => xs.length - (intOf t).toNat)
    case atStart => exact ⟨0, k, by omega, rfl, rfl, by omega, by omega, by unfold Hid; simp [posN], H0.out⟩
    case round =>
      obtain ⟨i, q, hi, rfl, rfl, q1, q2, HQ, HR⟩ := hrel
      clear H0
      by_cases hlt : i < xs.length
      · obtain ⟨x, hxi⟩ : ∃ x, xs[i]? = some x := ⟨_, List.getElem?_eq_getElem hlt⟩
        obtain ⟨T, ct, r, t, o⟩ := HR.out.row i x hxi
        rw [if_neg (by omega)] at r t
        have HX := Lib.hid hxi
        have HROW := Lib.hid r
        have HT := Lib.hid t
        have HO := Lib.hid o
        have hsn := posN_snoc hxi
        have hpl := HPL.out (i + 1)
        have hsz := Nat.lt_of_lt_of_le hbt (Nat.le_trans htop HR.out.size)
        have hwide : x.wide = x.terms.length + 7 := rfl
        have hqe := HQ.out
        have hq3 : q + x.terms.length + 7 ≤ 200000000 := by omega
        have HN : Hid (q + 7 + x.terms.length = k + posN xs (i + 1)) := by unfold Hid; omega
        have htl : x.terms.length ≤ 100000000 := by omega
        have i0 : (0 : Int) ≤ (i : Int) := by omega
        have i1 : (i : Int) < (xs.length : Int) := by omega
        clear r t o hxi hsn hpl hwide hqe
        go_wp2_with fail
        refine (markText_any q _ (by omega) (by omega)).mono ?_
        rintro e w2 ⟨rfl, hb2⟩
        have HB2 := Lib.hid hb2
        have cl : ∀ j v, (ntC x T ct)[j]? = some v → w2.cell? ⟨b, off + i * 8 + j, none⟩ = some v := fun j v hv => (hb2.cell (p := ⟨b, off + i * 8 + j, none⟩) hsz).trans (HROW.out j v hv)
        have v0 := cl 0 _ rfl
        have v1 := cl 1 _ rfl
        have v2 := cl 2 _ rfl
        have v3 := cl 3 _ rfl
        have v4 := cl 4 _ rfl
        have v5 := Lib.hid (cl 5 _ rfl)
        have v6 := Lib.hid (cl 6 _ rfl)
        have v7 := Lib.hid (cl 7 _ rfl)
        have fl : ∀ j, w2.frozen? ⟨b, j, none⟩ = false := fun j => (hb2.frozen (p := ⟨b, j, none⟩) hsz).trans (HR.out.fr j)
        have HFL := Lib.hid fl
        have hWr : Wr (Value.int .i64) (putL b (off + i * 8) 0 [.string (mtext q), .int .i64 (q + 1), .int .i64 (q + 1 + 1), .int .i64 (q + 1 + 1 + 1)] w2) base T x.terms :=
          Wr.of_blocks (HT.out.1.below hb2) (by rw [putL_size]; exact Nat.le_refl _) fun t' o' i' e' hn hlt' => putL_block b (off + i * 8) (fun e2 => by
            have h3 := (HO.out t' o' i' e' hn).1
            rw [e2, HOW.out] at h3
            omega) 0 _ w2
        have HWR := Lib.hid hWr
        clear cl hb2 hWr
        rw [Nat.add_zero] at v0
        have f0 := fl (off + i * 8)
        have f1 := fl (off + i * 8 + 1)
        have f2 := fl (off + i * 8 + 2)
        have f3 := fl (off + i * 8 + 3)
        clear fl
        go_wp2_with fail
        refine (markInt64S_any T ct x.terms base (q + 1 + 1 + 1 + 1) _ ?hw (by omega) (by omega) (by omega)).mono ?_
        case hw => exact HWR.out
        rintro e w3 ⟨rfl, hm3, hb3, hs3, ho3⟩
        have hb3b : w3.heap[b]? = (putL b (off + i * 8) 0 [.string (mtext q), .int .i64 (q + 1), .int .i64 (q + 1 + 1), .int .i64 (q + 1 + 1 + 1)] w2).heap[b]? := ho3 b (fun hn => by
          obtain ⟨tb, tq, e', _⟩ := HT.out.1 hn
          refine ⟨tb, tq, e', fun e2 => ?_⟩
          have h3 := (HO.out tb tq none e' hn).1
          rw [← e2, HOW.out] at h3
          omega)
        have cl3 : ∀ j v, 4 ≤ j → w2.cell? ⟨b, off + i * 8 + j, none⟩ = some v → w3.cell? ⟨b, off + i * 8 + j, none⟩ = some v := fun j v hj hv =>
          (World.cell?_of_block (a := ⟨b, off + i * 8 + j, none⟩) hb3b).trans ((putL_other b (off + i * 8) 0 _ w2 (fun m hm => by
            have hm : m < 4 := hm
            intro e; injection e; omega)).trans hv)
        have g5 := cl3 5 _ (by omega) v5.out
        have g6 := cl3 6 _ (by omega) v6.out
        have g7 := cl3 7 _ (by omega) v7.out
        have fl3 : ∀ j, w3.frozen? ⟨b, j, none⟩ = false := fun j => by
          have e1 : w3.frozen? ⟨b, j, none⟩ = (putL b (off + i * 8) 0 [.string (mtext q), .int .i64 (q + 1), .int .i64 (q + 1 + 1), .int .i64 (q + 1 + 1 + 1)] w2).frozen? ⟨b, j, none⟩ := by simp only [World.frozen?, hb3b]
          rw [e1, putL_frozen]
          exact HFL.out j
        have h5 := fl3 (off + i * 8 + 5)
        have h6 := fl3 (off + i * 8 + 6)
        have h7 := fl3 (off + i * 8 + 7)
        have HS := Lib.hid (MkN.step (q := q) (a1 := q + 1) (a2 := q + 1 + 1) (a3 := q + 1 + 1 + 1) (a4 := q + 1 + 1 + 1 + 1) (a5 := q + 1 + 1 + 1 + 1 + x.terms.length) (a6 := q + 1 + 1 + 1 + 1 + x.terms.length + 1) (a7 := q + 1 + 1 + 1 + 1 + x.terms.length + 1 + 1) HR.out HOW.out hb hbt htop hlt HX.out HROW.out HT.out HO.out HQ.out rfl (by omega) (by omega) (by omega) (by omega) (by omega) (by omega) HB2.out hm3 hb3 hs3 ho3)
        clear cl3 fl3 hb3b hm3 hb3 hs3 ho3 v0 v1 v2 v3 v4 f0 f1 f2 f3
        go_wp2
        go_roundw
        case rel =>
          exact ⟨i + 1, q + 7 + x.terms.length, by omega, by go_num, val_int (by omega), by omega, by omega, HN.out, HS.out⟩
        case measure => simp [intOf]; omega
      · have hie : i = xs.length := by omega
        subst hie
        have HE := Lib.hid (ret_int (k := .i64) HQ.out)
        go_wp2
        go_ret
        exact ⟨HE.out, MkN.done HR.out HOW.out hb hbt htop, HR.out.bel, HR.out.size, HR.out.far⟩
set_option maxRecDepth 100000 in
set_option maxHeartbeats 1000000 in
theorem heldNoteS_any (A : Option Addr) (c : Nat) (xs : List Nt) (k : Int) (w : World) (hx : RdNt w w.heap.size A (mkNts xs k)) (hm : posN xs xs.length ≤ 100000000) (hk : 1 ≤ k) (hk' : k ≤ 1000) :
    Calls Tryz.prog 9 #[.slice A xs.length c, .int .i64 k] w fun e w' => e = .returned (.int .i64 (k + posN xs xs.length)) ∧ Below w.heap.size w w' := by
  have hlen := posN_len xs xs.length (Nat.le_refl _)
  have HPL := Lib.hid (fun i => posN_le xs i)
  have hxl : xs.length ≤ 100000000 := by omega
  clear hlen
  go_enter Tryz.func9, Tryz.ntmps9
  go_wp2_with fail
  go_loopw [5, 1] (fun t m wr => ∃ (i : Nat) (q : Int), i ≤ xs.length ∧ t = .int .i64 i ∧ m = .int .i64 q ∧ 1 ≤ q ∧ q ≤ 200000000 ∧ Hid (q = k + posN xs i) ∧ Hid (Below w.heap.size w wr)) (fun t _ _ => xs.length - (intOf t).toNat)
  case atStart => exact ⟨0, k, by omega, rfl, rfl, by omega, by omega, by unfold Hid; simp [posN], Below.refl _ _⟩
  case round =>
    obtain ⟨i, q, hi, rfl, rfl, q1, q2, HQ, HB⟩ := hrel
    by_cases hlt : i < xs.length
    · obtain ⟨x, hxi⟩ : ∃ x, xs[i]? = some x := ⟨_, List.getElem?_eq_getElem hlt⟩
      obtain ⟨b, off, rfl, hb, hc⟩ := hx (by rw [mkNts_length]; omega)
      obtain ⟨T, ct, cr, cT⟩ := hc i _ (mkNts_get xs k i x hxi)
      have hsn := posN_snoc hxi
      have hpl := HPL.out (i + 1)
      have hwide : x.wide = x.terms.length + 7 := rfl
      have hqe := HQ.out
      rw [← hqe] at cr cT
      have htl : x.terms.length ≤ 100000000 := by omega
      have hq3 : q + x.terms.length + 7 ≤ 200000000 := by omega
      have HN : Hid (q + 7 + x.terms.length = k + posN xs (i + 1)) := by unfold Hid; omega
      have i0 : (0 : Int) ≤ (i : Int) := by omega
      have i1 : (i : Int) < (xs.length : Int) := by omega
      have HROW := Lib.hid cr
      have HT := Lib.hid cT
      clear cr cT hc hsn hpl hwide hqe
      have cl : ∀ W : World, Below w.heap.size w W → ∀ j v, (ntC (mkNt x q) T ct)[j]? = some v → W.cell? ⟨b, off + i * 8 + j, none⟩ = some v := fun W hW j v hv => (hW.cell (p := ⟨b, off + i * 8 + j, none⟩) hb).trans (HROW.out j v hv)
      have HCL := Lib.hid cl
      have k0 : ∀ d os, (grow (redrawn wr d) os).cell? ⟨b, off + i * 8, none⟩ = some (.string (mtext q)) := cell_regrown (HCL.out wr HB.out 0 _ rfl)
      clear cl
      go_wp2_with fail
      refine wp_region_quiet_below (by kernel_rfl) (by kernel_rfl) ?_
      repeat (first | go_big_quiet_step ((with_reducible exact Calls.regrown_of (markText_any q _ (by omega) (by omega)))) | quiet_step ((with_reducible exact Calls.regrown_of (markText_any q _ (by omega) (by omega)))))
      refine wpQuiet_nil ?_
      intro _ hw'
      obtain ⟨⟨dq, oq⟩, hw''⟩ := hw'
      subst hw''
      have HB' := Lib.hid (ext_trans HB.out (below_regrown wr dq oq))
      clear k0
      generalize grow (redrawn wr dq) oq = W2 at *
      have c1 := HCL.out W2 HB'.out 1 _ rfl
      have c2 := HCL.out W2 HB'.out 2 _ rfl
      have c3 := HCL.out W2 HB'.out 3 _ rfl
      have c4 := HCL.out W2 HB'.out 4 _ rfl
      have c5 := HCL.out W2 HB'.out 5 _ rfl
      have c6 := HCL.out W2 HB'.out 6 _ rfl
      have c7 := HCL.out W2 HB'.out 7 _ rfl
      simp only [mkNt, marks_length] at c1 c2 c3 c4 c5 c6 c7
      rw [show q + 2 = q + 1 + 1 by omega] at c2
      rw [show q + 3 = q + 1 + 1 + 1 by omega] at c3
      rw [show q + 4 + (x.terms.length : Int) = q + 1 + 1 + 1 + 1 + x.terms.length by omega] at c5
      rw [show q + 5 + (x.terms.length : Int) = q + 1 + 1 + 1 + 1 + x.terms.length + 1 by omega] at c6
      rw [show q + 6 + (x.terms.length : Int) = q + 1 + 1 + 1 + 1 + x.terms.length + 1 + 1 by omega] at c7
      have HT2 : Hid (Rd (Value.int .i64) W2 W2.heap.size T (marks (q + 1 + 1 + 1 + 1) x.terms.length)) := by
        have h := (HT.out.1.below HB'.out).more HB'.out.size
        rwa [show (mkNt x q).terms = marks (q + 4) x.terms.length from rfl, show q + 4 = q + 1 + 1 + 1 + 1 by omega] at h
      go_wp2_with fail
      refine (heldInt64S_any T ct x.terms.length (q + 1 + 1 + 1 + 1) _ HT2.out (by omega) (by omega) (by omega)).mono ?_
      rintro e w' ⟨rfl, rfl⟩
      have hn0 : ¬ (q + 1 + 1 + 1 + 1 + (x.terms.length : Int) < 0) := by omega
      go_wp2
      go_roundw
      case rel => exact ⟨i + 1, q + 7 + x.terms.length, by omega, by go_num, val_int (by omega), by omega, by omega, HN.out, HB'.out⟩
      case measure => simp [intOf]; omega
    · have hie : i = xs.length := by omega
      subst hie
      have HE := Lib.hid (ret_int (k := .i64) HQ.out)
      go_wp2
      go_ret
      exact ⟨HE.out, HB.out⟩
end Go.Proofs.YtbcikkaoohihhaaGreatDoor
