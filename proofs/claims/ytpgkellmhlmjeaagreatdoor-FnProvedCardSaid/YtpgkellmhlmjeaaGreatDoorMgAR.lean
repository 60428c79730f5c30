/- Parts of the proof, merged: CheckFW CheckHW. No condition but those that each theorem names. -/
import Derived.Test.YtpgkellmhlmjeaaGreatDoorMgAO
import Derived.Test.YtpgkellmhlmjeaaGreatDoorMgAK
import Derived.Test.YtpgkellmhlmjeaaGreatDoorMgAQ
import Derived.Test.YtpgkellmhlmjeaaGreatDoorMgAP
namespace Go.Proofs.YtpgkellmhlmjeaaGreatDoor
open Go.RowKit Go.Sort Go.Maps Go.WideMaps
def difP (L : List Sd) (i : Nat) : Bool := fdS L (L.getD i (0, 0, 0)) == (i : Int)
theorem fd_at {L : List Sd} {i : Nat} (h : i < L.length) : fdS L (L.getD i (0, 0, 0)) = (L.idxOf (L.getD i (0, 0, 0)) : Int) := fdS_mem (List.mem_of_getElem? (getD_ofL h))
theorem getD_idx {L : List Sd} {s : Sd} (h : s ∈ L) : L.getD (L.idxOf s) (0, 0, 0) = s := by
  have hl := List.idxOf_lt_length_of_mem h
  have := getD_ofL hl
  rw [List.getElem?_eq_getElem hl, List.getElem_idxOf] at this
  exact (Option.some.inj this).symm
theorem idx_le' {L : List Sd} {i : Nat} {s : Sd} (h : L[i]? = some s) : L.idxOf s ≤ i := by
  rcases Nat.lt_or_ge i (L.idxOf s) with g | g
  · exfalso
    have hi : i < L.length := (List.getElem?_eq_some_iff.1 h).1
    have hmt : s ∈ L.take (i + 1) := by
      refine List.mem_of_getElem? (i := i) ?_
      rw [List.getElem?_take, if_pos (by omega)]
      exact h
    have e1 := List.idxOf_lt_length_of_mem hmt
    have e2 : (L.take (i + 1) ++ L.drop (i + 1)).idxOf s = (L.take (i + 1)).idxOf s := by rw [List.idxOf_append, if_pos hmt]
    rw [List.take_append_drop] at e2
    rw [List.length_take] at e1
    omega
  · exact g
theorem idx_le {L : List Sd} {i : Nat} (h : i < L.length) : L.idxOf (L.getD i (0, 0, 0)) ≤ i := idx_le' (getD_ofL h)
theorem nd_inj {L : List Sd} (h : L.Nodup) {i j : Nat} {s : Sd} (hi : L[i]? = some s) (hj : L[j]? = some s) : i = j :=
  (List.getElem?_inj (List.getElem?_eq_some_iff.1 hi).1 h).1 (hi.trans hj.symm)
theorem dif_nodup (L : List Sd) : allK (difP L) L.length = decide L.Nodup := by
  rw [Bool.eq_iff_iff, decide_eq_true_iff]
  constructor
  · intro h
    have hat : ∀ i, i < L.length → L.idxOf (L.getD i (0, 0, 0)) = i := fun i hi => by
      cases e : difP L i
      · rw [allK_false e _ hi] at h; cases h
      · unfold difP at e
        rw [fd_at hi, beq_iff_eq] at e
        omega
    rw [List.Nodup, List.pairwise_iff_getElem]
    intro i j hi hj hij he
    have h1 := hat i hi
    have h2 := hat j hj
    have g1 := getD_ofL hi
    have g2 := getD_ofL hj
    rw [List.getElem?_eq_getElem hi] at g1
    rw [List.getElem?_eq_getElem hj] at g2
    have e : L.getD i (0, 0, 0) = L.getD j (0, 0, 0) := by rw [← Option.some.inj g1, ← Option.some.inj g2, he]
    rw [e] at h1
    omega
  · intro h
    have : ∀ n, n ≤ L.length → allK (difP L) n = true := fun n => by
      induction n with
      | zero => intro _; rfl
      | succ n ih =>
        intro hn
        refine allK_succ (ih (by omega)) ?_
        unfold difP
        have hm := List.mem_of_getElem? (getD_ofL (show n < L.length by omega))
        have hl := List.idxOf_lt_length_of_mem hm
        have h1 := getD_ofL hl
        rw [getD_idx hm] at h1
        have e := nd_inj h h1 (getD_ofL (show n < L.length by omega))
        rw [fd_at (by omega), beq_iff_eq]
        omega
    exact this _ (Nat.le_refl _)
theorem fd_last {L : List Sd} {m j : Nat} (hL : L.length = m + 2) (hj : j ≤ m) (hn : (L.take (m + 1)).Nodup) : (fdS L (L.getD (m + 1) (0, 0, 0)) == (j : Int)) = (L.getD (m + 1) (0, 0, 0) == L.getD j (0, 0, 0)) := by
  rw [fd_at (by omega), Bool.eq_iff_iff]
  simp only [beq_iff_eq]
  have hm := List.mem_of_getElem? (getD_ofL (show m + 1 < L.length by omega))
  constructor
  · intro h
    have := getD_idx hm
    rw [show L.idxOf (L.getD (m + 1) (0, 0, 0)) = j by omega] at this
    exact this.symm
  · intro h
    rw [h]
    have hle := idx_le (show j < L.length by omega)
    have hmj := List.mem_of_getElem? (getD_ofL (show j < L.length by omega))
    have hl := List.idxOf_lt_length_of_mem hmj
    have h1 := getD_ofL hl
    rw [getD_idx hmj] at h1
    have : L.idxOf (L.getD j (0, 0, 0)) = j := by
      refine nd_inj hn (s := L.getD j (0, 0, 0)) ?_ ?_
      · rw [List.getElem?_take, if_pos (by omega)]; exact h1
      · rw [List.getElem?_take, if_pos (by omega)]; exact getD_ofL (by omega)
    omega
theorem sdL_take : ∀ (L : List Sd) (n : Nat), sdL (L.take n) = (sdL L).take (n * 3)
  | _, 0 => by simp [sdL]
  | [], _ + 1 => by simp [sdL]
  | a :: L, n + 1 => by
    have e : ∀ M, sdL (a :: M) = a.1 :: a.2.1 :: a.2.2 :: sdL M := fun M => rfl
    rw [List.take_succ_cons, e, e, sdL_take L n, show (n + 1) * 3 = n * 3 + 1 + 1 + 1 by omega, List.take_succ_cons, List.take_succ_cons, List.take_succ_cons]
theorem rd_takeS {w : World} {B : Nat} {b off : Nat} {L : List Sd} {n : Nat} (h : Rd (Value.int .i64) w B (some ⟨b, off, none⟩) (sdL L)) : Rd (Value.int .i64) w B (some ⟨b, off, none⟩) (sdL (L.take n)) := by
  rw [sdL_take]
  intro hn
  have h1 : 0 < (sdL L).length := by rw [List.length_take] at hn; omega
  obtain ⟨b', off', he, hb, hc⟩ := h h1
  refine ⟨b', off', he, hb, fun j x hj => hc j x ?_⟩
  rw [List.getElem?_take] at hj
  split at hj
  · exact hj
  · cases hj
set_option maxRecDepth 100000 in
set_option maxHeartbeats 2000000 in
theorem l26Different_any (A : Option Addr) (c : Nat) (L : List Sd) (w : World) (hx : Rd (Value.int .i64) w w.heap.size A (sdL L)) (hl : L.length ≤ 1000) :
    Calls Tryz.prog 130 #[.slice A L.length c] w fun e w' => e = .returned (.bool (decide L.Nodup)) ∧ Below w.heap.size w w' := by
  have HX := Lib.hid hx
  have HN := Lib.hid (dif_nodup L)
  rw [← HN.out]
  clear hx HN
  have hlen := sdL_length L
  go_enter Tryz.func130, Tryz.ntmps130
  go_wp2_with fail
  go_loopw [3] (fun t wr => ∃ k : Nat, k ≤ L.length ∧ t = .int .i64 k ∧ Hid (allK (difP L) k = true) ∧ Hid (Below w.heap.size w wr)) (fun t _ => L.length - (intOf t).toNat)
  case atStart => exact ⟨0, by omega, rfl, rfl, Below.refl _ _⟩
  case round =>
    obtain ⟨k, hk, rfl, HK, HB⟩ := hrel
    have k0 : (0 : Int) ≤ (k : Int) := by omega
    by_cases hlt : k < L.length
    · have HFD := Lib.hid (fun s : Sd => l08Find_any A c L s wr ((HX.out.below HB.out).more HB.out.size) hl)
      obtain ⟨b, off, rfl, hb, hc⟩ := HX.out (by omega)
      obtain ⟨g0, g1, g2⟩ := sdL_get (getD_ofL hlt)
      have y0 := (HB.out.cell (p := ⟨b, off + k * 3, none⟩) hb).trans (hc _ _ g0)
      have y1 := (HB.out.cell (p := ⟨b, off + (k * 3 + 1), none⟩) hb).trans (hc _ _ g1)
      have y2 := (HB.out.cell (p := ⟨b, off + (k * 3 + 2), none⟩) hb).trans (hc _ _ g2)
      rw [← Nat.add_assoc] at y1 y2
      have HQ : Hid (difP L k = (fdS L (L.getD k (0, 0, 0)) == (k : Int))) := rfl
      have HF := Lib.hid (HFD.out (L.getD k (0, 0, 0)))
      have HAF : Hid (difP L k = false → allK (difP L) L.length = false) := fun h => allK_false h _ hlt
      have i1 : (k : Int) < (L.length : Int) := by omega
      unfold surdV at HF
      clear g0 g1 g2 hc HFD hlen
      generalize fdS L (L.getD k (0, 0, 0)) = f at *
      generalize (L.getD k (0, 0, 0)).1 = s1 at *
      generalize (L.getD k (0, 0, 0)).2.1 = s2 at *
      generalize (L.getD k (0, 0, 0)).2.2 = s3 at *
      cases hq : (f == (k : Int))
      · have q1 : (f != (k : Int)) = true := by simpa [bne] using hq
        have HE := Lib.hid (HAF.out (by rw [HQ.out, hq]))
        go_wp2_with fail
        refine HF.out.mono ?_
        rintro e w2 ⟨rfl, hb2⟩
        go_wp2
        go_ret
        exact ⟨ret_bool HE.out.symm, ext_trans HB.out hb2⟩
      · have q1 : (f != (k : Int)) = false := by simpa [bne] using hq
        have HE := Lib.hid (allK_succ HK.out (by rw [HQ.out, hq]))
        go_wp2_with fail
        refine HF.out.mono ?_
        rintro e w2 ⟨rfl, hb2⟩
        go_wp2
        go_roundw
        case rel => exact ⟨k + 1, by omega, by go_num, HE.out, ext_trans HB.out hb2⟩
        case measure => simp [intOf]; omega
    · have HE : Hid (allK (difP L) L.length = true) := by
        have h := HK.out
        rwa [show k = L.length by omega] at h
      have i1 : ¬ (k : Int) < (L.length : Int) := by omega
      go_wp2
      go_ret
      exact ⟨ret_bool HE.out.symm, HB.out⟩
set_option maxRecDepth 100000 in
set_option maxHeartbeats 4000000 in
theorem l26Period_any (A : Option Addr) (c : Nat) (xs : List Int) (w : World) (hx : RdC w w.heap.size A c xs) (hb : ∀ x ∈ xs, -1000000000 ≤ x ∧ x ≤ 1000000000) (hm : xs.length ≤ 420) :
    Calls Tryz.prog 83 #[.slice A xs.length c] w fun e w' => e = .returned (.bool (peB xs)) ∧ Below w.heap.size w w' := by
  obtain ⟨hx1, hx2, hx3⟩ := hx
  unfold maxLen at hx3
  have HU : Hid (peB xs = (decide (6 ≤ xs.length) && (decide (0 ≤ xs.getD 3 0) && (decide (1 ≤ xs.getD 4 0) && (decide (xs.getD 3 0 + xs.getD 4 0 = (xs.length : Int) - 5) && (match along (xs.getD 0 0, xs.getD 1 0, xs.getD 2 0) (xs.drop 5) with
    | none => false
    | some L => decide ((L.take (L.length - 1)).Nodup) && (L.getD (L.length - 1) (0, 0, 0) == L.getD (xs.getD 3 0).toNat (0, 0, 0)))))))) := rfl
  have EB := Lib.hid (Below.refl w.heap.size w)
  by_cases h6 : 6 ≤ xs.length
  · rw [decide_eq_true h6, Bool.true_and] at HU
    have d6 : decide ((xs.length : Int) < 6) = false := by simp; omega
    obtain ⟨b, off, rfl, hbl, hc⟩ := hx1 (by omega)
    have c0 := hc 0 _ (getD_ofC (show 0 < xs.length by omega))
    have c1 := hc 1 _ (getD_ofC (show 1 < xs.length by omega))
    have c2 := hc 2 _ (getD_ofC (show 2 < xs.length by omega))
    have c3 := hc 3 _ (getD_ofC (show 3 < xs.length by omega))
    have c4 := hc 4 _ (getD_ofC (show 4 < xs.length by omega))
    rw [Nat.add_zero] at c0
    have hd3 := hb _ (List.mem_of_getElem? (getD_ofC (show 3 < xs.length by omega)))
    have hd4 := hb _ (List.mem_of_getElem? (getD_ofC (show 4 < xs.length by omega)))
    have HRD : Hid (∀ W, Below w.heap.size w W → Rd (Value.int .i64) W W.heap.size (some ⟨b, off + 5, none⟩) (xs.drop 5)) := fun W hW => ((drop_rd hbl hc).below hW).more hW.size
    have HCK : Hid (∀ W, Below w.heap.size w W → (W.cell? ⟨b, off, none⟩ = some (.int .i64 (xs.getD 0 0)) ∧ W.cell? ⟨b, off + 1, none⟩ = some (.int .i64 (xs.getD 1 0)) ∧ W.cell? ⟨b, off + 2, none⟩ = some (.int .i64 (xs.getD 2 0))) ∧ W.cell? ⟨b, off + 3, none⟩ = some (.int .i64 (xs.getD 3 0)) ∧ W.cell? ⟨b, off + 4, none⟩ = some (.int .i64 (xs.getD 4 0))) := fun W hW => ⟨⟨(hW.cell (p := ⟨b, off, none⟩) hbl).trans c0, (hW.cell (p := ⟨b, off + 1, none⟩) hbl).trans c1, (hW.cell (p := ⟨b, off + 2, none⟩) hbl).trans c2⟩, (hW.cell (p := ⟨b, off + 3, none⟩) hbl).trans c3, (hW.cell (p := ⟨b, off + 4, none⟩) hbl).trans c4⟩
    have HLD : Hid (xs.length - 5 = (xs.drop 5).length) := by simp [Hid]
    have hds : (xs.drop 5).length ≤ 1000 := by rw [List.length_drop]; omega
    have j3 : (5 : Int) ≤ (xs.length : Int) := by omega
    have n0 : 0 < xs.length := by omega
    have nc3 : ¬ (c = 5) := by omega
    have n1 : 1 < xs.length := by omega
    have n2 : 2 < xs.length := by omega
    have n3 : 3 < xs.length := by omega
    have n4 : 4 < xs.length := by omega
    have m1 : (1 : Int) < (xs.length : Int) := by omega
    have m2 : (2 : Int) < (xs.length : Int) := by omega
    have m3 : (3 : Int) < (xs.length : Int) := by omega
    have m4 : (4 : Int) < (xs.length : Int) := by omega
    have j3c : (5 : Int) ≤ (c : Int) := by omega
    have jlc : (xs.length : Int) ≤ (c : Int) := by omega
    clear hc hb hx1
    generalize xs.getD 0 0 = p at *
    generalize xs.getD 1 0 = d at *
    generalize xs.getD 2 0 = q at *
    generalize xs.getD 3 0 = h at *
    generalize xs.getD 4 0 = t at *
    obtain ⟨D1, D2⟩ := hd3
    obtain ⟨D3, D4⟩ := hd4
    clear c0 c1 c2 c3 c4
    have ED := Lib.hid (ext_drew EB.out)
    have B0 := Lib.hid (BoxV.new w #[.int .i64 p, .int .i64 d, .int .i64 q] 46).drew
    have E0 := Lib.hid (ext_drew (ext_alloc EB.out (.cells #[.int .i64 p, .int .i64 d, .int .i64 q] 46)))
    go_enter Tryz.func83, Tryz.ntmps83
    go_wp2_with fail
    go_region_held3 (fun w' => w'.cell? ⟨b, off, none⟩ = some (.int .i64 p) ∧ w'.cell? ⟨b, off + 1, none⟩ = some (.int .i64 d) ∧ w'.cell? ⟨b, off + 2, none⟩ = some (.int .i64 q))
      (exact (HCK.out _ (by repeat (first | exact ED.out | exact EB.out | refine ext_set ?_ (by simp <;> omega) _ | refine ext_alloc ?_ _ | refine ext_drew ?_))).1)
      (fail)
    all_goals
      have k3 : ∀ x os, (grow (redrawn (w.alloc (.cells #[.int .i64 p, .int .i64 d, .int .i64 q] 46)).drew x) os).cell? ⟨b, off + 3, none⟩ = some (.int .i64 h) := cell_regrown (HCK.out _ E0.out).2.1
      have k4 : ∀ x os, (grow (redrawn (w.alloc (.cells #[.int .i64 p, .int .i64 d, .int .i64 q] 46)).drew x) os).cell? ⟨b, off + 4, none⟩ = some (.int .i64 t) := cell_regrown (HCK.out _ E0.out).2.2
      have b0 : ∀ x os, (grow (redrawn (w.alloc (.cells #[.int .i64 p, .int .i64 d, .int .i64 q] 46)).drew x) os).cell? ⟨w.heap.size, 0, none⟩ = some (.int .i64 p) := cell_regrown (B0.out.at 0 _ rfl)
      have b1 : ∀ x os, (grow (redrawn (w.alloc (.cells #[.int .i64 p, .int .i64 d, .int .i64 q] 46)).drew x) os).cell? ⟨w.heap.size, 1, none⟩ = some (.int .i64 d) := cell_regrown (B0.out.at 1 _ rfl)
      have b2 : ∀ x os, (grow (redrawn (w.alloc (.cells #[.int .i64 p, .int .i64 d, .int .i64 q] 46)).drew x) os).cell? ⟨w.heap.size, 2, none⟩ = some (.int .i64 q) := cell_regrown (B0.out.at 2 _ rfl)
      have v1 : IntKind.i64.wrap (h + t) = h + t := IntWalk.i64_in _ (by omega)
      have v2 : IntKind.i64.wrap ((xs.length : Int) - 5) = (xs.length : Int) - 5 := IntWalk.i64_in _ (by omega)
      have HOKC := Lib.hid (fun W : World => l07Ok_any p d q W)
      unfold surdV at HOKC
      have HSO : Hid (surdB p d q = sdOk (p, d, q)) := rfl
      rw [HSO.out] at HOKC
      go_wp2_with fail
      generalize (w.alloc (.cells #[.int .i64 p, .int .i64 d, .int .i64 q] 46)).drew = W0 at *
      cases hok : sdOk (p, d, q)
      · have HE : Hid (peB xs = false) := by
          have : along (p, d, q) (xs.drop 5) = none := by unfold along; rw [hok]; rfl
          unfold Hid
          rw [HU.out, this]
          simp
        rw [hok] at HOKC
        refine wp_region_quiet_below (by kernel_rfl) (by kernel_rfl) ?_
        repeat (first | go_big_quiet_step ((with_reducible exact Calls.regrown_of (HOKC.out _))) | quiet_step ((with_reducible exact Calls.regrown_of (HOKC.out _))))
        refine wpQuiet_nil ?_
        intro _ hw'
        obtain ⟨⟨dq, oq⟩, hw''⟩ := hw'
        subst hw''
        go_wp2
        go_ret
        exact ⟨ret_bool HE.out.symm, ext_trans E0.out (below_regrown _ _ _)⟩
      · rw [hok] at HOKC
        by_cases h0 : 0 ≤ h
        · have t0 : decide (h < 0) = false := by simp; omega
          by_cases h1 : 1 ≤ t
          · have t1 : decide (t < 1) = false := by simp; omega
            by_cases h2 : h + t = (xs.length : Int) - 5
            · have t2 : (h + t != (xs.length : Int) - 5) = false := by simpa using h2
              rw [decide_eq_true h0, decide_eq_true h1, decide_eq_true h2, Bool.true_and, Bool.true_and, Bool.true_and] at HU
              obtain ⟨j, rfl⟩ : ∃ j : Nat, h = (j : Int) := ⟨h.toNat, by omega⟩
              rw [Int.toNat_natCast] at HU
              have hjl : j + 6 ≤ xs.length := by omega
              have H2 := Lib.hid h2
              have HOK := Lib.hid hok
              clear h2 hok
              refine wp_region_quiet_below (by kernel_rfl) (by kernel_rfl) ?_
              repeat (first | go_big_quiet_step ((with_reducible exact Calls.regrown_of (HOKC.out _))) | quiet_step ((with_reducible exact Calls.regrown_of (HOKC.out _))))
              refine wpQuiet_nil ?_
              intro _ hw'
              obtain ⟨⟨dq, oq⟩, hw''⟩ := hw'
              subst hw''
              have W1E := Lib.hid (ext_trans E0.out (below_regrown W0 dq oq))
              have B1 := Lib.hid (B0.out.next (below_regrown W0 dq oq))
              clear k3 k4 b0 b1 b2 v1 v2 t0 t1 t2
              generalize hW1 : grow (redrawn W0 dq) oq = w1 at *
              clear hW1
              have ED1 := Lib.hid (ext_drew W1E.out)
              have HBX := Lib.hid (fun (W : World) (hb : BoxV w.heap.size [.int .i64 p, .int .i64 d, .int .i64 q] W) => And.intro (hb.at 0 _ rfl) (And.intro (hb.at 1 _ rfl) (hb.at 2 _ rfl)))
              have HBS := Lib.hid (HBX.out _ B1.out.drew)
              have HBN := Lib.hid (fun (W : World) (h : Below w1.drew.heap.size w1.drew W) => HBX.out _ (B1.out.drew.next h))
              rcases Option.eq_none_or_eq_some (along (p, d, q) (xs.drop 5)) with hR | ⟨L, hR⟩
              · rw [hR] at HU
                have HSB := Lib.hid (l26Along_none (c := c - 5) (HRD.out _ ED1.out) hds HLD.out HOK.out hR)
                unfold surdV at HSB
                clear hR
                go_wp2_with fail
                go_region_held3 (fun w' => w'.cell? ⟨w.heap.size, 0, none⟩ = some (.int .i64 p) ∧ w'.cell? ⟨w.heap.size, 1, none⟩ = some (.int .i64 d) ∧ w'.cell? ⟨w.heap.size, 2, none⟩ = some (.int .i64 q))
                  (first | exact HBS.out | exact HBN.out _ hb5)
                  (first | (go_at_call 126; (with_reducible refine HSB.out.mono ?_); rintro e w5 ⟨A5, c5, rfl, hb5⟩))
                all_goals
                  have HB5 := Lib.hid (ext_trans ED1.out hb5)
                  clear hb5
                  go_wp2
                  go_ret
                  exact ⟨ret_bool HU.out.symm, HB5.out⟩
              · rw [hR] at HU
                have hLl := along_len hR
                obtain ⟨m, hLm⟩ : ∃ m, L.length = m + 2 := ⟨xs.length - 6, by rw [hLl, List.length_drop]; omega⟩
                have hml : xs.length = m + 6 := by rw [List.length_drop] at hLl; omega
                have HSB := Lib.hid (l26Along_some (c := c - 5) (HRD.out _ ED1.out) hds HLD.out HOK.out hR (m + 2) hLm)
                have HLM := Lib.hid hLm
                have hjm : j ≤ m := by omega
                have hmb : m ≤ 420 := by omega
                have HUP : Hid (peB xs = (decide ((L.take (m + 1)).Nodup) && (L.getD (m + 1) (0, 0, 0) == L.getD j (0, 0, 0)))) := by
                  unfold Hid
                  rw [HU.out]
                  show (decide ((L.take (L.length - 1)).Nodup) && (L.getD (L.length - 1) (0, 0, 0) == L.getD j (0, 0, 0))) = _
                  rw [hLm]
                  rfl
                have HUQ : Hid (peB xs = ((fdS L (L.getD (m + 1) (0, 0, 0)) == (j : Int)) && decide ((L.take (m + 1)).Nodup))) := by
                  unfold Hid
                  rw [HUP.out]
                  by_cases hn : (L.take (m + 1)).Nodup
                  · rw [decide_eq_true hn, Bool.true_and, Bool.and_true, fd_last hLm hjm hn]
                  · rw [decide_eq_false hn, Bool.false_and, Bool.and_false]
                unfold surdV at HSB
                clear hR hLl hLm hml hds HU HUP
                go_wp2_with fail
                go_region_held3 (fun w' => w'.cell? ⟨w.heap.size, 0, none⟩ = some (.int .i64 p) ∧ w'.cell? ⟨w.heap.size, 1, none⟩ = some (.int .i64 d) ∧ w'.cell? ⟨w.heap.size, 2, none⟩ = some (.int .i64 q))
                  (first | exact HBS.out | exact HBN.out _ hb5)
                  (first | (go_at_call 126; (with_reducible refine HSB.out.mono ?_); rintro e w5 ⟨A5, c5, rfl, hw5, ⟨hc5, hc5m⟩, hb5⟩))
                have HR5 := Lib.hid (fun (W : World) (hW : Below w5.heap.size w5 W) => (hw5.rd.below hW).more hW.size)
                obtain ⟨b5, off5, rfl, hb5l, hb5h, hcc5, _⟩ := hw5 (by rw [sdL_length, HLM.out]; omega)
                have HB5 := Lib.hid (ext_trans ED1.out hb5)
                have HCC := Lib.hid hcc5
                have HFD : Hid (∀ W, Below w5.heap.size w5 W → Calls Tryz.prog 129 #[.slice (some ⟨b5, off5, none⟩) (m + 2) c5, surdV (L.getD (m + 1) (0, 0, 0)).1 (L.getD (m + 1) (0, 0, 0)).2.1 (L.getD (m + 1) (0, 0, 0)).2.2] W fun e w' => e = .returned (.int .i64 (fdS L (L.getD (m + 1) (0, 0, 0)))) ∧ Below W.heap.size W w') := fun W hW => by
                  have h := l08Find_any (some ⟨b5, off5, none⟩) c5 L (L.getD (m + 1) (0, 0, 0)) W (HR5.out W hW) (by rw [HLM.out]; omega)
                  rwa [HLM.out] at h
                have HDF : Hid (∀ W, Below w5.heap.size w5 W → Calls Tryz.prog 130 #[.slice (some ⟨b5, off5, none⟩) (m + 1) c5] W fun e w' => e = .returned (.bool (decide (L.take (m + 1)).Nodup)) ∧ Below W.heap.size W w') := fun W hW => by
                  have hlt : (L.take (m + 1)).length = m + 1 := by rw [List.length_take, HLM.out]; omega
                  have h := l26Different_any (some ⟨b5, off5, none⟩) c5 (L.take (m + 1)) W (rd_takeS (HR5.out W hW)) (by rw [hlt]; omega)
                  rwa [hlt] at h
                unfold maxLen at hc5m
                clear hb5 hcc5 HSB HR5
                have jm1 : (0 : Int) ≤ (m : Int) + 1 := by omega
                have jm2 : (m : Int) + 1 ≤ (c5 : Int) := by omega
                have hL1 := getD_ofL (show m + 1 < L.length by rw [HLM.out]; omega)
                obtain ⟨g0, g1, g2⟩ := sdL_get hL1
                have HGC : Hid (∀ (o : Nat) (x : Int), (sdL L)[o]? = some x → ∀ y os, (grow (redrawn w5 y) os).cell? ⟨b5, off5 + o, none⟩ = some (.int .i64 x)) := fun o x h => cell_regrown (HCC.out o x h)
                have y0 := HGC.out _ _ g0
                have y1 := HGC.out _ _ g1
                have y2 := HGC.out _ _ g2
                rw [← Nat.add_assoc] at y1 y2
                have k3 : ∀ x os, (grow (redrawn w5 x) os).cell? ⟨b, off + 3, none⟩ = some (.int .i64 (j : Int)) := cell_regrown (HCK.out _ HB5.out).2.1
                unfold surdV at HFD
                clear g0 g1 g2 hL1 HGC
                generalize fdS L (L.getD (m + 1) (0, 0, 0)) = f at *
                generalize L.getD (m + 1) (0, 0, 0) = sa at *
                obtain ⟨a1, a2, a3⟩ := sa
                have i2 : (m : Int) + 1 < (m : Int) + 2 := by omega
                have i3 : m + 1 < m + 2 := by omega
                generalize decide (L.take (m + 1)).Nodup = nd at *
                go_wp2_with fail
                cases hf : (f == (j : Int))
                · refine wp_region_quiet_below (by kernel_rfl) (by kernel_rfl) ?_
                  repeat (first | go_big_quiet_step ((first | (with_reducible exact Calls.regrown_of (HFD.out _ (below_regrown _ _ _))) | (with_reducible exact Calls.regrown_of (HDF.out _ (below_regrown _ _ _))))) | quiet_step ((first | (with_reducible exact Calls.regrown_of (HFD.out _ (below_regrown _ _ _))) | (with_reducible exact Calls.regrown_of (HDF.out _ (below_regrown _ _ _))))))
                  refine wpQuiet_nil ?_
                  intro _ hw'
                  obtain ⟨⟨dq, oq⟩, hw''⟩ := hw'
                  subst hw''
                  go_wp2
                  go_ret
                  exact ⟨ret_bool (by rw [HUQ.out, hf]; rfl), ext_trans HB5.out (below_regrown _ _ _)⟩
                · refine wp_region_quiet_below (by kernel_rfl) (by kernel_rfl) ?_
                  repeat (first | go_big_quiet_step ((first | (with_reducible exact Calls.regrown_of (HFD.out _ (below_regrown _ _ _))) | (with_reducible exact Calls.regrown_of (HDF.out _ (below_regrown _ _ _))))) | quiet_step ((first | (with_reducible exact Calls.regrown_of (HFD.out _ (below_regrown _ _ _))) | (with_reducible exact Calls.regrown_of (HDF.out _ (below_regrown _ _ _))))))
                  refine wpQuiet_nil ?_
                  intro _ hw'
                  obtain ⟨⟨dq, oq⟩, hw''⟩ := hw'
                  subst hw''
                  go_wp2
                  go_ret
                  exact ⟨ret_bool (by rw [HUQ.out, hf]; rfl), ext_trans HB5.out (below_regrown _ _ _)⟩
            · have t2 : (h + t != (xs.length : Int) - 5) = true := by simpa using h2
              rw [decide_eq_false h2, Bool.false_and, Bool.and_false, Bool.and_false] at HU
              clear h2
              refine wp_region_quiet_below (by kernel_rfl) (by kernel_rfl) ?_
              repeat (first | go_big_quiet_step ((with_reducible exact Calls.regrown_of (HOKC.out _))) | quiet_step ((with_reducible exact Calls.regrown_of (HOKC.out _))))
              refine wpQuiet_nil ?_
              intro _ hw'
              obtain ⟨⟨dq, oq⟩, hw''⟩ := hw'
              subst hw''
              go_wp2
              go_ret
              exact ⟨ret_bool HU.out.symm, ext_trans E0.out (below_regrown _ _ _)⟩
          · have t1 : decide (t < 1) = true := by simp; omega
            rw [decide_eq_false h1, Bool.false_and, Bool.and_false] at HU
            refine wp_region_quiet_below (by kernel_rfl) (by kernel_rfl) ?_
            repeat (first | go_big_quiet_step ((with_reducible exact Calls.regrown_of (HOKC.out _))) | quiet_step ((with_reducible exact Calls.regrown_of (HOKC.out _))))
            refine wpQuiet_nil ?_
            intro _ hw'
            obtain ⟨⟨dq, oq⟩, hw''⟩ := hw'
            subst hw''
            go_wp2
            go_ret
            exact ⟨ret_bool HU.out.symm, ext_trans E0.out (below_regrown _ _ _)⟩
        · have t0 : decide (h < 0) = true := by simp; omega
          rw [decide_eq_false h0, Bool.false_and] at HU
          refine wp_region_quiet_below (by kernel_rfl) (by kernel_rfl) ?_
          repeat (first | go_big_quiet_step ((with_reducible exact Calls.regrown_of (HOKC.out _))) | quiet_step ((with_reducible exact Calls.regrown_of (HOKC.out _))))
          refine wpQuiet_nil ?_
          intro _ hw'
          obtain ⟨⟨dq, oq⟩, hw''⟩ := hw'
          subst hw''
          go_wp2
          go_ret
          exact ⟨ret_bool HU.out.symm, ext_trans E0.out (below_regrown _ _ _)⟩
  · have HE : Hid (peB xs = false) := by rw [HU.out, decide_eq_false h6]; rfl
    have d6 : decide ((xs.length : Int) < 6) = true := by simp; omega
    rw [HE.out]
    go_enter Tryz.func83, Tryz.ntmps83
    go_wp2
    go_ret
    exact ⟨rfl, EB.out⟩
end Go.Proofs.YtpgkellmhlmjeaaGreatDoor
namespace Go.Proofs.YtpgkellmhlmjeaaGreatDoor
open Go.RowKit Go.Sort
/-- The rule of a kind. -/
def ccK (kk : Int) (xs : List Int) : Bool := if kk = 1 then gcB xs else if kk = 2 then roB xs else if kk = 3 then liB xs else if kk = 4 then unB xs else if kk = 5 then peB xs else neB xs
/-- The certificate is accepted. -/
def ccB (kk : Int) (xs : List Int) : Bool := bdC kk xs && ccK kk xs
set_option maxRecDepth 100000 in
set_option maxHeartbeats 2000000 in
theorem l26Ok_any (g : Nat) (kk : Int) (A : Option Addr) (c : Nat) (xs : List Int) (w : World) (hx : RdC w w.heap.size A c xs) (hm : xs.length ≤ maxLen) (c0 : w.cell? ⟨g, 0, none⟩ = some (.int .i64 kk)) (c1 : w.cell? ⟨g, 1, none⟩ = some (.slice A xs.length c)) :
    Calls Tryz.prog 36 #[.pointer (some ⟨g, 0, none⟩)] w fun e w' => e = .returned (.bool (ccB kk xs)) ∧ Below w.heap.size w w' := by
  have HX : Hid (RdC w w.heap.size A c xs) := hx
  have HF := Lib.hid (l26Fits_any g A c xs w hx.1 hm c1)
  have EB := Lib.hid (Below.refl w.heap.size w)
  have HU : Hid (ccB kk xs = (nbB xs && (inR kk 1 6 && ccK kk xs))) := by unfold Hid ccB bdC; rw [Bool.and_comm (inR kk 1 6), Bool.and_assoc]
  rw [HU.out]
  clear HU hx
  cases hn : nbB xs
  · rw [hn] at HF
    clear hn
    go_enter Tryz.func36, Tryz.ntmps36
    go_wp2_with (go_at_call 78; (with_reducible refine HF.out.mono ?_); rintro e w' ⟨rfl, rfl⟩)
    go_ret
    exact ⟨rfl, EB.out⟩
  · rw [hn] at HF
    obtain ⟨hn1, hn2⟩ := nbB_all hn
    have HN := Lib.hid hn2
    rw [Bool.true_and]
    clear hn hn2
    by_cases h6 : kk = 1 ∨ kk = 2 ∨ kk = 3 ∨ kk = 4 ∨ kk = 5 ∨ kk = 6
    · rcases h6 with rfl | rfl | rfl | rfl | rfl | rfl
      · have HC : Hid (Calls Tryz.prog 79 #[.slice A xs.length c] w fun e w' => e = .returned (.bool (inR (0 + 1) 1 6 && ccK (0 + 1) xs)) ∧ Below w.heap.size w w') := l26Gcd_any A c xs w HX.out.1 HN.out hn1
        simp only [Int.reduceAdd] at HC
        generalize (inR _ 1 6 && ccK _ xs) = R at *
        clear hn1
        go_enter Tryz.func36, Tryz.ntmps36
        go_wp2_with (go_at_call 78; (with_reducible refine HF.out.mono ?_); rintro e w' ⟨rfl, rfl⟩)
        refine HC.out.mono ?_
        rintro e w1 ⟨rfl, hb⟩
        go_wp2
        go_ret
        exact ⟨rfl, hb⟩
      · have HC : Hid (Calls Tryz.prog 80 #[.slice A xs.length c] w fun e w' => e = .returned (.bool (inR (1 + 1) 1 6 && ccK (1 + 1) xs)) ∧ Below w.heap.size w w') := l26Root_any A c xs w HX.out.1 HN.out hn1
        simp only [Int.reduceAdd] at HC
        generalize (inR _ 1 6 && ccK _ xs) = R at *
        clear hn1
        go_enter Tryz.func36, Tryz.ntmps36
        go_wp2_with (go_at_call 78; (with_reducible refine HF.out.mono ?_); rintro e w' ⟨rfl, rfl⟩)
        refine HC.out.mono ?_
        rintro e w1 ⟨rfl, hb⟩
        go_wp2
        go_ret
        exact ⟨rfl, hb⟩
      · have HC : Hid (Calls Tryz.prog 81 #[.slice A xs.length c] w fun e w' => e = .returned (.bool (inR (2 + 1) 1 6 && ccK (2 + 1) xs)) ∧ Below w.heap.size w w') := l26Linear_any A c xs w HX.out.1 HN.out hn1
        simp only [Int.reduceAdd] at HC
        generalize (inR _ 1 6 && ccK _ xs) = R at *
        clear hn1
        go_enter Tryz.func36, Tryz.ntmps36
        go_wp2_with (go_at_call 78; (with_reducible refine HF.out.mono ?_); rintro e w' ⟨rfl, rfl⟩)
        refine HC.out.mono ?_
        rintro e w1 ⟨rfl, hb⟩
        go_wp2
        go_ret
        exact ⟨rfl, hb⟩
      · have HC : Hid (Calls Tryz.prog 82 #[.slice A xs.length c] w fun e w' => e = .returned (.bool (inR (3 + 1) 1 6 && ccK (3 + 1) xs)) ∧ Below w.heap.size w w') := l26Unit_any A c xs w HX.out HN.out hn1
        simp only [Int.reduceAdd] at HC
        generalize (inR _ 1 6 && ccK _ xs) = R at *
        clear hn1
        go_enter Tryz.func36, Tryz.ntmps36
        go_wp2_with (go_at_call 78; (with_reducible refine HF.out.mono ?_); rintro e w' ⟨rfl, rfl⟩)
        refine HC.out.mono ?_
        rintro e w1 ⟨rfl, hb⟩
        go_wp2
        go_ret
        exact ⟨rfl, hb⟩
      · have HC : Hid (Calls Tryz.prog 83 #[.slice A xs.length c] w fun e w' => e = .returned (.bool (inR (4 + 1) 1 6 && ccK (4 + 1) xs)) ∧ Below w.heap.size w w') := l26Period_any A c xs w HX.out HN.out hn1
        simp only [Int.reduceAdd] at HC
        generalize (inR _ 1 6 && ccK _ xs) = R at *
        clear hn1
        go_enter Tryz.func36, Tryz.ntmps36
        go_wp2_with (go_at_call 78; (with_reducible refine HF.out.mono ?_); rintro e w' ⟨rfl, rfl⟩)
        refine HC.out.mono ?_
        rintro e w1 ⟨rfl, hb⟩
        go_wp2
        go_ret
        exact ⟨rfl, hb⟩
      · have HC : Hid (Calls Tryz.prog 84 #[.slice A xs.length c] w fun e w' => e = .returned (.bool (inR (5 + 1) 1 6 && ccK (5 + 1) xs)) ∧ Below w.heap.size w w') := l26Best_any A c xs w HX.out.1 HN.out hn1
        simp only [Int.reduceAdd] at HC
        generalize (inR _ 1 6 && ccK _ xs) = R at *
        clear hn1
        go_enter Tryz.func36, Tryz.ntmps36
        go_wp2_with (go_at_call 78; (with_reducible refine HF.out.mono ?_); rintro e w' ⟨rfl, rfl⟩)
        refine HC.out.mono ?_
        rintro e w1 ⟨rfl, hb⟩
        go_wp2
        go_ret
        exact ⟨rfl, hb⟩
    · have e1 : (kk == 1) = false := by simp; omega
      have e2 : (kk == 2) = false := by simp; omega
      have e3 : (kk == 3) = false := by simp; omega
      have e4 : (kk == 4) = false := by simp; omega
      have e5 : (kk == 5) = false := by simp; omega
      have e6 : (kk == 6) = false := by simp; omega
      have HR : Hid ((inR kk 1 6 && ccK kk xs) = false) := by
        unfold Hid
        rw [show inR kk 1 6 = false from inR_false.2 (by omega)]
        rfl
      rw [HR.out]
      clear h6
      go_enter Tryz.func36, Tryz.ntmps36
      go_wp2_with (go_at_call 78; (with_reducible refine HF.out.mono ?_); rintro e w' ⟨rfl, rfl⟩)
      go_ret
      exact ⟨rfl, EB.out⟩
theorem sCheckCertificate_any (kk : Int) (A : Option Addr) (c : Nat) (xs : List Int) (w : World) (hx : RdC w w.heap.size A c xs) (hm : xs.length ≤ maxLen) :
    Calls Tryz.prog 8 #[certV kk A xs.length c] w fun e w' => e = .returned (.bool (ccB kk xs)) ∧ Below w.heap.size w w' := by
  have HC : Hid (Calls Tryz.prog 36 #[.pointer (some ⟨w.heap.size, 0, none⟩)] (w.alloc (.cells #[.int .i64 kk, .slice A xs.length c] 26)) fun e w' => e = .returned (.bool (ccB kk xs)) ∧ Below (w.alloc (.cells #[.int .i64 kk, .slice A xs.length c] 26)).heap.size (w.alloc (.cells #[.int .i64 kk, .slice A xs.length c] 26)) w') :=
    l26Ok_any w.heap.size kk A c xs _ ⟨(hx.1.below (ext1 _ _)).more (by simp), hx.2⟩ hm (by rw [cell_one]; rfl) (by rw [cell_one]; rfl)
  clear hx
  unfold certV
  go_enter Tryz.func8, Tryz.ntmps8
  go_wp2_with fail
  refine HC.out.mono ?_
  rintro e w1 ⟨rfl, hb⟩
  go_wp2
  go_ret
  exact ⟨rfl, ext_trans (ext1 _ _) hb⟩
end Go.Proofs.YtpgkellmhlmjeaaGreatDoor
