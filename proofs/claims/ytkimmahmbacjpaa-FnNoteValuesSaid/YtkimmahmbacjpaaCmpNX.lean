/- How two notes compare: both walks. No condition but those that each theorem names. -/
import Derived.Test.YtkimmahmbacjpaaCmpNW
namespace Go.Proofs.Ytkimmahmbacjpaa
open Go.RowKit Go.Sort

set_option maxRecDepth 100000 in
set_option maxHeartbeats 4000000 in
theorem l17Compare_any (s t : So) (gx gy : Nat) (H P G H' P' G' : Option Addr) (ch cp cg ch' cp' cg' : Nat) (w : World) (hr : RdSo w w.heap.size H P G s) (ha : SoAt w gx H P G ch cp cg s) (hs : TmB s) (hl : s.hd.length ≤ 1000) (hb : ∀ x ∈ s.hd, -2000000000 ≤ x ∧ x ≤ 2000000000) (hp : plS s = s)
    (hr' : RdSo w w.heap.size H' P' G' t) (ha' : SoAt w gy H' P' G' ch' cp' cg' t) (ht : TmB t) (hl' : t.hd.length ≤ 1000) (hb' : ∀ x ∈ t.hd, -2000000000 ≤ x ∧ x ≤ 2000000000) (hp' : plS t = t) :
    Calls Try.prog 46 #[.pointer (some ⟨gx, 0, none⟩), .pointer (some ⟨gy, 0, none⟩), .int .i64 1000] w fun e w' => e = .returned (.tuple #[.int .i64 (cmpF (tmS s) (tmS t) 1000 0).1, .int .i64 (cmpF (tmS s) (tmS t) 1000 0).2]) ∧ Below w.heap.size w w' := by
  have hgy : gy < w.heap.size := World.block_lt_of_cell? w _ ha'.c0
  have H1 : Hid (Calls Try.prog 83 #[.pointer (some ⟨gx, 0, none⟩)] w (RetPl w s)) := by
    have h := l17Plain_any s gx H P G ch cp cg w hr ha hs hl hb
    rwa [hp] at h
  have H2 : Hid (∀ W : World, Below w.heap.size w W → Calls Try.prog 83 #[.pointer (some ⟨gy, 0, none⟩)] W (RetPl W t)) := fun W h => by
    have h := l17Plain_any t gy H' P' G' ch' cp' cg' W (hr'.next h) (ha'.below h hgy) ht hl' hb'
    rwa [hp'] at h
  have HS := Lib.hid (And.intro hs ht)
  obtain ⟨R, hR⟩ : ∃ R, cmpF (tmS s) (tmS t) 1000 0 = R := ⟨_, rfl⟩
  rw [hR]
  have HR0 : Hid (cmpF (tmS s) (tmS t) (1000 - 0) 0 = R) := hR
  clear hr ha hs hl hb hp hr' ha' ht hl' hb' hp' hgy hR
  unfold RetPl at H1 H2
  unfold souV at *
  go_enter Try.func46, Try.ntmps46
  go_wp2_with fail
  refine H1.out.mono ?_
  rintro e w1 ⟨H, ca, P, cb, G, cc, rfl, hrd1, hb1⟩
  have HB1 := Lib.hid (ext_alloc hb1 (.cells #[.slice H s.hd.length ca, .slice P s.pd.length cb, .slice G s.gr.length cc] 72))
  have hrd1 := hrd1.next (ext1 w1 (.cells #[.slice H s.hd.length ca, .slice P s.pd.length cb, .slice G s.gr.length cc] 72))
  have ha1 := SoAt.of_box (s := s) (BoxV.new w1 #[.slice H s.hd.length ca, .slice P s.pd.length cb, .slice G s.gr.length cc] 72)
  have hz1 : w1.heap.size < (w1.alloc (.cells #[.slice H s.hd.length ca, .slice P s.pd.length cb, .slice G s.gr.length cc] 72)).heap.size := by simp
  have HD1 := Lib.hid (And.intro hrd1 (And.intro ha1 hz1))
  clear hrd1 ha1 hz1 hb1
  go_wp2_with fail
  generalize w1.alloc (.cells #[.slice H s.hd.length ca, .slice P s.pd.length cb, .slice G s.gr.length cc] 72) = W1 at *
  generalize w1.heap.size = g1 at *
  refine (H2.out _ HB1.out).mono ?_
  rintro e w2 ⟨H', ca', P', cb', G', cc', rfl, hrd2, hb2⟩
  have hrd2 := hrd2.next (ext1 w2 (.cells #[.slice H' t.hd.length ca', .slice P' t.pd.length cb', .slice G' t.gr.length cc'] 72))
  have ha2 := SoAt.of_box (s := t) (BoxV.new w2 #[.slice H' t.hd.length ca', .slice P' t.pd.length cb', .slice G' t.gr.length cc'] 72)
  have hz2 : w2.heap.size < (w2.alloc (.cells #[.slice H' t.hd.length ca', .slice P' t.pd.length cb', .slice G' t.gr.length cc'] 72)).heap.size := by simp
  have hbb := ext_alloc hb2 (.cells #[.slice H' t.hd.length ca', .slice P' t.pd.length cb', .slice G' t.gr.length cc'] 72)
  have HE0 := Lib.hid (ext_trans HB1.out hbb)
  have HF0 : Hid (∀ (k : Nat) (V : World), Below (w2.alloc (.cells #[.slice H' t.hd.length ca', .slice P' t.pd.length cb', .slice G' t.gr.length cc'] 72)).heap.size (w2.alloc (.cells #[.slice H' t.hd.length ca', .slice P' t.pd.length cb', .slice G' t.gr.length cc'] 72)) V → k ≤ 1000 → Calls Try.prog 81 #[.pointer (some ⟨g1, 0, none⟩), .int .i64 (k : Int)] V fun e w' => e = .returned (.tuple #[.int .i64 ((tmS s k).getD 0), .bool (tmS s k).isSome]) ∧ Below V.heap.size V w') := fun k V h hk => l15Term_any s g1 H P G ca cb cc k V ((HD1.out.1.next hbb).next h) ((HD1.out.2.1.below hbb HD1.out.2.2).below h (Nat.lt_of_lt_of_le HD1.out.2.2 hbb.size)) HS.out.1 (by omega)
  have HG0 : Hid (∀ (k : Nat) (V : World), Below (w2.alloc (.cells #[.slice H' t.hd.length ca', .slice P' t.pd.length cb', .slice G' t.gr.length cc'] 72)).heap.size (w2.alloc (.cells #[.slice H' t.hd.length ca', .slice P' t.pd.length cb', .slice G' t.gr.length cc'] 72)) V → k ≤ 1000 → Calls Try.prog 81 #[.pointer (some ⟨w2.heap.size, 0, none⟩), .int .i64 (k : Int)] V fun e w' => e = .returned (.tuple #[.int .i64 ((tmS t k).getD 0), .bool (tmS t k).isSome]) ∧ Below V.heap.size V w') := fun k V h hk => l15Term_any t w2.heap.size H' P' G' ca' cb' cc' k V (hrd2.next h) (ha2.below h hz2) HS.out.2 (by omega)
  clear hrd2 ha2 hz2 hbb hb2 HB1 HD1 H1 H2 HS
  go_wp2_with fail
  have hg12 : True := trivial
  generalize w2.alloc (.cells #[.slice H' t.hd.length ca', .slice P' t.pd.length cb', .slice G' t.gr.length cc'] 72) = W2 at *
  generalize w2.heap.size = g2 at *
  generalize tmS s = f at *
  generalize tmS t = g at *
  go_loopw [10, 11] (fun a b wr => ∃ (k : Nat) (sg : Int), a = .int .i64 sg ∧ b = .int .i64 (k : Int) ∧ k ≤ 1000 ∧ -1 ≤ sg ∧ sg ≤ 1 ∧ Hid (sg = sgK k) ∧ Hid (cmpF f g (1000 - k) k = R) ∧ Hid (Below W2.heap.size W2 wr)) (fun _ b _ => 1000 - (intOf b).toNat)
  case atStart => exact ⟨0, 1, rfl, rfl, by omega, by omega, by omega, rfl, HR0.out, Below.refl _ _⟩
  case round =>
    obtain ⟨k, sg, rfl, rfl, hk, sb1, sb2, HSG, HR, HE⟩ := hrel
    clear HR0 hg12
    by_cases hlt : k < 1000
    · have HF := Lib.hid (fun (V : World) (h : Below W2.heap.size W2 V) => HF0.out k V h hk)
      have HG := Lib.hid (fun (V : World) (h : Below W2.heap.size W2 V) => HG0.out k V h hk)
      have HLT := Lib.hid hlt
      cases hf : f k with
      | none =>
        rw [hf] at HF
        cases hg : g k with
        | none =>
          rw [hg] at HG
          rw [cmp_nn hlt hf hg] at HR
          clear hf hg
          simp only [Option.getD_none, Option.isSome_none] at HF HG
          go_wp2_with (go_at_call 81; first | ((with_reducible refine (HF.out _ HE.out).mono ?_); rintro e w2 ⟨rfl, hb2⟩; have HE2 := Lib.hid (ext_trans HE.out hb2); clear hb2) | ((with_reducible refine (HG.out _ HE2.out).mono ?_); rintro e w3 ⟨rfl, hb3⟩; have HE3 := Lib.hid (ext_trans HE2.out hb3); clear hb3))
          go_ret2
          rw [← HR.out]
          exact ⟨rfl, ext_trans HE0.out HE3.out⟩
        | some u =>
          rw [hg] at HG
          rw [cmp_ns hlt hf hg, ← HSG.out] at HR
          clear hf hg
          simp only [Option.getD_none, Option.isSome_none, Option.getD_some, Option.isSome_some] at HF HG
          go_wp2_with (go_at_call 81; first | ((with_reducible refine (HF.out _ HE.out).mono ?_); rintro e w2 ⟨rfl, hb2⟩; have HE2 := Lib.hid (ext_trans HE.out hb2); clear hb2) | ((with_reducible refine (HG.out _ HE2.out).mono ?_); rintro e w3 ⟨rfl, hb3⟩; have HE3 := Lib.hid (ext_trans HE2.out hb3); clear hb3))
          go_ret2
          rw [← HR.out]
          exact ⟨rfl, ext_trans HE0.out HE3.out⟩
      | some a =>
        rw [hf] at HF
        cases hg : g k with
        | none =>
          rw [hg] at HG
          rw [cmp_sn hlt hf hg, ← HSG.out] at HR
          clear hf hg
          simp only [Option.getD_none, Option.isSome_none, Option.getD_some, Option.isSome_some] at HF HG
          go_wp2_with (go_at_call 81; first | ((with_reducible refine (HF.out _ HE.out).mono ?_); rintro e w2 ⟨rfl, hb2⟩; have HE2 := Lib.hid (ext_trans HE.out hb2); clear hb2) | ((with_reducible refine (HG.out _ HE2.out).mono ?_); rintro e w3 ⟨rfl, hb3⟩; have HE3 := Lib.hid (ext_trans HE2.out hb3); clear hb3))
          go_ret2
          rw [← HR.out]
          exact ⟨rfl, ext_trans HE0.out HE3.out⟩
        | some u =>
          rw [hg] at HG
          simp only [Option.getD_some, Option.isSome_some] at HF HG
          rcases Int.lt_trichotomy a u with hc | hc | hc
          · rw [cmp_lt hlt hf hg hc, ← HSG.out] at HR
            clear hf hg
            go_wp2_with (go_at_call 81; first | ((with_reducible refine (HF.out _ HE.out).mono ?_); rintro e w2 ⟨rfl, hb2⟩; have HE2 := Lib.hid (ext_trans HE.out hb2); clear hb2) | ((with_reducible refine (HG.out _ HE2.out).mono ?_); rintro e w3 ⟨rfl, hb3⟩; have HE3 := Lib.hid (ext_trans HE2.out hb3); clear hb3))
            go_ret2
            rw [← HR.out]
            exact ⟨rfl, ext_trans HE0.out HE3.out⟩
          · rw [cmp_eq hlt hf hg hc] at HR
            have c1 : ¬ a < u := by omega
            have c2 : ¬ u < a := by omega
            have HS1 : Hid (-sg = sgK (k + 1)) := by unfold Hid; rw [sgK_succ, HSG.out]
            clear hf hg hc
            go_wp2_with (go_at_call 81; first | ((with_reducible refine (HF.out _ HE.out).mono ?_); rintro e w2 ⟨rfl, hb2⟩; have HE2 := Lib.hid (ext_trans HE.out hb2); clear hb2) | ((with_reducible refine (HG.out _ HE2.out).mono ?_); rintro e w3 ⟨rfl, hb3⟩; have HE3 := Lib.hid (ext_trans HE2.out hb3); clear hb3))
            go_roundw
            case rel => exact ⟨k + 1, -sg, rfl, by go_num, by have := HLT.out; omega, by omega, by omega, HS1.out, HR.out, HE3.out⟩
            case measure => have := HLT.out; simp [intOf]; omega
          · rw [cmp_gt hlt hf hg hc, ← HSG.out] at HR
            have c1 : ¬ a < u := by omega
            clear hf hg
            go_wp2_with (go_at_call 81; first | ((with_reducible refine (HF.out _ HE.out).mono ?_); rintro e w2 ⟨rfl, hb2⟩; have HE2 := Lib.hid (ext_trans HE.out hb2); clear hb2) | ((with_reducible refine (HG.out _ HE2.out).mono ?_); rintro e w3 ⟨rfl, hb3⟩; have HE3 := Lib.hid (ext_trans HE2.out hb3); clear hb3))
            go_ret2
            rw [← HR.out]
            exact ⟨rfl, ext_trans HE0.out HE3.out⟩
    · obtain rfl : k = 1000 := by omega
      rw [cmp_end] at HR
      clear hlt hk
      go_wp2_with fail
      go_ret2
      rw [← HR.out]
      exact ⟨rfl, ext_trans HE0.out HE.out⟩
/-- A note's source is plain already. -/
theorem plS_nt {x : Nt} (h : ntOk x = true) (h0 : ntCd x = 0) : plS (ntSo x) = ntSo x := by
  rcases nt_kinds h with ⟨h1, h2⟩ | ⟨h1, h2⟩ | ⟨h1, h2⟩
  · obtain ⟨d1, _⟩ := fracOk_true.1 h2
    rw [ntSo, if_pos h1, plS, if_pos (by rfl), sh_terms _ _ d1]
  · rw [ntSo, if_neg (by omega), if_pos h1, plS, if_pos (by rfl)]
    have ht : ∀ (xs : List Int) (i : Nat), termsAll i xs = true → ∀ k, 0 < k + i → k < xs.length → 1 ≤ xs.getD k 0 := by
      intro xs
      induction xs with
      | nil => intro i _ k _ hk; simp at hk
      | cons y ys ih =>
        intro i ha k hk hl
        unfold termsAll at ha
        rw [Bool.and_eq_true] at ha
        cases k with
        | zero =>
          have h1 := ha.1
          unfold tmB at h1
          rw [if_neg (by omega)] at h1
          exact (inR_true.1 h1).1
        | succ k => exact ih (i + 1) ha.2 k (by omega) (by simpa using hl)
    unfold termsB at h2
    rw [Bool.and_eq_true] at h2
    rw [shT_idem (fun k hk hl => ht x.terms 0 h2.1 k (by omega) hl)]
  · rw [ntCd, if_neg (by omega), if_neg (by omega)] at h0
    cases hR : pdR (ntSd x) with
    | none => exact absurd h0 (pdR_none hR)
    | some R =>
      obtain ⟨L, i⟩ := R
      obtain ⟨_, _, _, hi, _⟩ := pdR_facts hR
      rw [plS, if_neg]
      rw [ntSo, if_neg (by omega), if_neg (by omega), hR]
      show ¬ (cycOf (L, i)).length = 0
      simp [cycOf]
      omega
theorem ntSo_hd {x : Nt} (h : ntOk x = true) (h0 : ntCd x = 0) : (ntSo x).hd.length ≤ 1000 ∧ ∀ y ∈ (ntSo x).hd, -2000000000 ≤ y ∧ y ≤ 2000000000 := by
  refine ⟨(ntSo_tmB h h0).1, ?_⟩
  rcases nt_kinds h with ⟨h1, h2⟩ | ⟨h1, h2⟩ | ⟨h1, h2⟩
  · obtain ⟨d1, d2, n1, n2, _⟩ := fracOk_true.1 h2
    rw [ntSo, if_pos h1]
    intro y hy
    have := expT_bd x.den.toNat x.num x.den n1 n2 (by omega) d2 y hy
    omega
  · rw [ntSo, if_neg (by omega), if_pos h1]
    intro y hy
    have := shT_bd (termsB_bd h2).2.2 y hy
    omega
  · rw [ntCd, if_neg (by omega), if_neg (by omega)] at h0
    cases hR : pdR (ntSd x) with
    | none => exact absurd h0 (pdR_none hR)
    | some R =>
      obtain ⟨L, i⟩ := R
      obtain ⟨k1, k2, _, hi, _⟩ := pdR_facts hR
      have hok := per_ok 400 [] (ntSd x) (L, i) k1 (by simp) k2
      rw [ntSo, if_neg (by omega), if_neg (by omega), hR]
      intro y hy
      simp only [hdR, headOf, Option.map_some, Option.getD_some, List.mem_map] at hy
      obtain ⟨z, hz, rfl⟩ := hy
      obtain ⟨p, d, q⟩ := z
      have := (step_bds (p := p) (d := d) (q := q) (hok _ (List.mem_of_mem_take hz))).2.2.2.2.1
      show -2000000000 ≤ flS (p, d, q) ∧ flS (p, d, q) ≤ 2000000000
      constructor
      · omega
      · omega
theorem ntCd_two {x : Nt} (h : ntOk x = true) : ntCd x = 0 ∨ ntCd x = 5 := by
  rcases nt_kinds h with ⟨h1, h2⟩ | ⟨h1, h2⟩ | ⟨h1, h2⟩
  · left; rw [ntCd, if_pos h1]
  · left; rw [ntCd, if_neg (by omega), if_pos h1]
  · rw [ntCd, if_neg (by omega), if_neg (by omega), pdC]
    have : sdOk (ntSd x) = true := h2
    rw [if_pos this]
    split <;> omega
/-- How two notes compare. -/
def cnR (x y : Nt) : Int × Int := if (ntOk x && ntOk y) = true then (if ntCd x = 0 ∧ ntCd y = 0 then cmpF (tmS (ntSo x)) (tmS (ntSo y)) 1000 0 else (0, 5)) else (0, 1)
end Go.Proofs.Ytkimmahmbacjpaa
