/- The sources of terms that the statements draw: the walk of the drawing. No condition but those that each theorem names. -/
import Derived.Test.YtjgafjbccfjojaaGreatMgAV
namespace Go.Proofs.YtjgafjbccfjojaaGreat
open Go.RowKit Go.Sort
set_option maxRecDepth 100000 in
set_option maxHeartbeats 4000000 in
theorem l15Draw_any (g B N : Nat) (w : World) (h : Src g B N w) (hN : N ≤ 600000) :
    Calls Tryz.prog 80 #[.pointer (some ⟨g, 0, none⟩)] w (RetSx g B (N + 100) w) := by
  obtain ⟨ti, hi, hz0, hz1, hz2⟩ := info_parts info64
  have HI := Lib.hid hi
  have HG := Lib.hid h.lt
  have S := Lib.hid (h.next (ext1 w (.cells #[.slice none 0 0, .slice none 0 0, .slice none 0 0] 26)))
  have K := Lib.hid (Keep.of (ext1 w (.cells #[.slice none 0 0, .slice none 0 0, .slice none 0 0] 26)) h.lt)
  have R1 := Lib.hid (BoxV.new w #[.slice none 0 0, .slice none 0 0, .slice none 0 0] 26)
  clear h hi
  go_enter Tryz.func80, Tryz.ntmps80
  go_wp2_with fail
  generalize w.alloc (.cells #[.slice none 0 0, .slice none 0 0, .slice none 0 0] 26) = W0 at *
  refine (srcPick_any g B N 5 _ S.out (by omega) (by omega)).mono ?_
  rintro e w1 ⟨k, k1, k2, rfl, S1, K1⟩
  have S := Lib.hid S1
  have R1 := Lib.hid (BoxV.keepK R1.out K1 (by have := HG.out; omega))
  have K := Lib.hid (K.out.trans K1)
  clear S1 K1
  by_cases e0 : k = 0
  · skip
    go_wp2_with fail
    refine (l07Draw_any g B _ _ S.out (by omega)).mono ?_
    rintro e w2 ⟨p, d, q, rfl, S1, K1⟩
    have S := Lib.hid S1
    have R1 := Lib.hid (BoxV.keepK R1.out K1 (by have := HG.out; omega))
    have K := Lib.hid (K.out.trans K1)
    clear S1 K1
    go_wp2_with fail
    have HS0 := Lib.hid S.out.lt
    have HB := Lib.hid R1.out.lt
    refine (SourceOfSurd_any p d q _).mono ?_
    rintro e w3 ⟨s, v1, v2, v3, c, rfl, ho, hl, hb⟩
    have S := Lib.hid (S.out.next hb)
    have R1 := Lib.hid (R1.out.next hb)
    have K := Lib.hid (K.out.trans (Keep.of hb HS0.out))
    clear hb HS0
    have O := Lib.hid (ho.more (B' := w2.heap.size) (Nat.le_succ _))
    have HB3 : Hid (w.heap.size < w2.heap.size) := HB.out
    have HS3 := Lib.hid S.out.lt
    have HLN := Lib.hid hl
    clear ho hl HB
    obtain ⟨A1, c1, rfl⟩ : ∃ A c, v1 = .slice A s.hd.length c := own_slice O.out.o1
    obtain ⟨A2, c2, rfl⟩ : ∃ A c, v2 = .slice A s.pd.length c := own_slice O.out.o2
    obtain ⟨A3, c3, rfl⟩ : ∃ A c, v3 = .slice A s.gr.length c := own_slice O.out.o3
    obtain ⟨n1, hn1⟩ : ∃ n, s.hd.length = n := ⟨_, rfl⟩
    obtain ⟨n2, hn2⟩ : ∃ n, s.pd.length = n := ⟨_, rfl⟩
    obtain ⟨n3, hn3⟩ : ∃ n, s.gr.length = n := ⟨_, rfl⟩
    rw [hn1, hn2, hn3] at O ⊢
    clear hn1 hn2 hn3
    obtain ⟨v1, hv1⟩ : ∃ v : Value, v = .slice A1 n1 c1 := ⟨_, rfl⟩
    obtain ⟨v2, hv2⟩ : ∃ v : Value, v = .slice A2 n2 c2 := ⟨_, rfl⟩
    obtain ⟨v3, hv3⟩ : ∃ v : Value, v = .slice A3 n3 c3 := ⟨_, rfl⟩
    rw [← hv1, ← hv2, ← hv3] at O
    have HV := Lib.hid (And.intro hv1 (And.intro hv2 hv3))
    clear hv1 hv2 hv3
    by_cases hc : c = 0
    · have hc0 : (c == 0) = true := by simpa using hc
      obtain ⟨rfl, rfl, rfl⟩ := HV.out
      have R1 := Lib.hid (R1.out.alloc (.cells #[.slice A1 n1 c1, .slice A2 n2 c2, .slice A3 n3 c3] 26))
      have X := Lib.hid (BoxV.new w3 #[.slice A1 n1 c1, .slice A2 n2 c2, .slice A3 n3 c3] 26)
      have S := Lib.hid (S.out.next (ext1 w3 (.cells #[.slice A1 n1 c1, .slice A2 n2 c2, .slice A3 n3 c3] 26)))
      have K := Lib.hid (K.out.trans (Keep.of (ext1 w3 (.cells #[.slice A1 n1 c1, .slice A2 n2 c2, .slice A3 n3 c3] 26)) HS3.out))
      have O := Lib.hid (O.out.next (ext1 w3 (.cells #[.slice A1 n1 c1, .slice A2 n2 c2, .slice A3 n3 c3] 26)))
      have r0 := R1.out.at 0 _ rfl
      have r1 := R1.out.at 1 _ rfl
      have r2 := R1.out.at 2 _ rfl
      have f0 := R1.out.f 0
      have f1 := R1.out.f 1
      have f2 := R1.out.f 2
      obtain ⟨s0, s1, s2⟩ := set_three r0 r1 r2
      have x0 := X.out.at 0 _ rfl
      have x1 := X.out.at 1 _ rfl
      have x2 := X.out.at 2 _ rfl
      have OF := Lib.hid (((O.out.low (b := w.heap.size) (j := 0) (u := .slice A1 n1 c1) HB3.out).low (b := w.heap.size) (j := 1) (u := .slice A2 n2 c2) HB3.out).low (b := w.heap.size) (j := 2) (u := .slice A3 n3 c3) HB3.out)
      have SF := Lib.hid ((((S.out.more (M := N + 100) (by omega)).setOther HG.out 0 (.slice A1 n1 c1)).setOther HG.out 1 (.slice A2 n2 c2)).setOther HG.out 2 (.slice A3 n3 c3))
      have KF := Lib.hid (((K.out.setOther HG.out (Nat.le_refl _) 0 (.slice A1 n1 c1)).setOther HG.out (Nat.le_refl _) 1 (.slice A2 n2 c2)).setOther HG.out (Nat.le_refl _) 2 (.slice A3 n3 c3))
      go_wp2
      refine bodyPost_ret (v := .agg #[.slice A1 n1 c1, .slice A2 n2 c2, .slice A3 n3 c3]) ?_ rfl ⟨s, _, _, _, rfl, OF.out.more (Nat.succ_le_of_lt HB3.out), HLN.out, SF.out, KF.out⟩
      simp [results, Tryz.results80, go_sem, s0, s1, s2]
    · have hc0 : (c == 0) = false := by simpa using hc
      have S := Lib.hid (S.out.next (ext1 w3 (.cells #[.slice A1 n1 c1, .slice A2 n2 c2, .slice A3 n3 c3] 26)))
      have R1 := Lib.hid (R1.out.alloc (.cells #[.slice A1 n1 c1, .slice A2 n2 c2, .slice A3 n3 c3] 26))
      have K := Lib.hid (K.out.trans (Keep.of (ext1 w3 (.cells #[.slice A1 n1 c1, .slice A2 n2 c2, .slice A3 n3 c3] 26)) HS3.out))
      clear hc HLN O HV
      go_wp2_with fail
      refine (srcPick_any g B _ 9 _ S.out (by omega) (by omega)).mono ?_
      rintro e w4 ⟨x, x1, x2, rfl, S1, K1⟩
      have S := Lib.hid S1
      have R1 := Lib.hid (BoxV.keepK R1.out K1 (by have := HG.out; omega))
      have K := Lib.hid (K.out.trans K1)
      clear S1 K1
      have T := Lib.hid (SX.start S.out K.out R1.out HG.out (x - 3) 26)
      clear S K R1
      go_wp2_with fail
      generalize (((w4.alloc (.cells #[.int .i64 (x - 3)] 2)).alloc (.cells #[] 2)).alloc (.cells #[] 2)).alloc (.cells #[.slice (some ⟨w4.heap.size, 0, none⟩) 1 1, .slice (some ⟨w4.heap.size + 1, 0, none⟩) 0 0, .slice (some ⟨w4.heap.size + 1 + 1, 0, none⟩) 0 0] 26) = W4 at *
      generalize w4.heap.size + 1 + 1 + 1 = b at *
      generalize w4.heap.size + 1 + 1 = a3 at *
      generalize w4.heap.size + 1 = a2 at *
      generalize w4.heap.size = a1 at *
      refine (srcPick_any g B _ 4 _ T.out.src (by omega) (by omega)).mono ?_
      rintro e w5 ⟨m, m1, m2, rfl, S1, K1⟩
      have T := Lib.hid (T.out.kept S1 K1)
      clear S1 K1
      obtain ⟨m, rfl⟩ : ∃ j : Nat, m = (j : Int) := ⟨m.toNat, by omega⟩
      have hm3 : m ≤ 3 := by omega
      clear m1 m2
      go_wp2_with fail
      go_loopw [8] (fun t wr => ∃ (k : Nat) (xs : List Int) (A : Option Addr) (c : Nat), t = .int .i64 k ∧ k ≤ 3 ∧ xs.length + k ≤ 4 ∧ Hid (SX g B (N + 56 + 2 * (3 - k)) b ⟨xs, [], []⟩ (.slice A xs.length c) (.slice (some ⟨a2, 0, none⟩) 0 0) (.slice (some ⟨a3, 0, none⟩) 0 0) w wr)) (fun t _ => (intOf t).toNat)
      case atStart => exact ⟨m, [x - 3], _, _, rfl, hm3, by simp; omega, T.out.more (by omega)⟩
      case round =>
        obtain ⟨k, xs, A, c, rfl, hk, hxk, HT⟩ := hrel
        clear T
        have T0 := HT
        clear HT
        by_cases h0 : 0 < k
        · have h0i : (0 : Int) < (k : Int) := by omega
          have u0 := T0.out.x.at 0 _ rfl
          have v0 := T0.out.x.f 0
          go_wp2_with fail
          first | go_region_law (first
            | (go_simp; go_at_call 35; ((with_reducible refine (srcPick_any g B _ 9 _ (T0.out.src.next (ext_drew (Below.refl _ _))) (by omega) (by omega)).mono ?_); rintro e w6 ⟨y, y1, y2, rfl, S3, K3'⟩; have K3 : Keep g wr w6 := (Keep.refl g wr).drew.trans K3'; have T3 := Lib.hid (T0.out.kept S3 K3); have hb3 : w.heap.size + 1 ≤ w6.heap.size + 1 := Nat.succ_le_succ T3.out.keep.2.1; obtain ⟨z, hz⟩ : ∃ z, IntKind.i64.wrap (1 + y) = z := ⟨_, rfl⟩; have O6 : (w6.alloc (.cells #[.int .i64 z] 2)).ownsRow (w.heap.size + 1) 2 1 (.slice A xs.length c) xs.length (xs.map (Value.int .i64)) := (T3.out.next (ext1 w6 (.cells #[.int .i64 z] 2))).o.o1; have hb4 : b < w6.heap.size := T3.out.x.lt; have m0 := T3.out.x.at 0 _ rfl; have n0 := T3.out.x.f 0))
            | (refine step_append_lies _ (by rfl) _ _ _ (by rfl) (w.heap.size + 1) 2 ti (.int .i64 0) 1 8 Tryz.underlying24 HI.out hz0 hz1 hz2 rfl (by decide) _ _ _ (by rfl) O6 ⟨w6.heap.size, 0, none⟩ 1 1 [.int .i64 z] (by rfl) (by rfl) (news_row1 _ _ _ rfl) (by simp [Value.oneCell']) (by omega) (by unfold maxLen; omega) (by omega) (by simp only [World.size_alloc]; exact hb3) _ rfl ?_; intro g6 cap6 w7 hown6 hgrow hat hlt; have B6 := (T3.out.next (ext1 w6 (.cells #[.int .i64 z] 2))).x.grown hgrow T3.out.f1; have z0 := B6.at 0 _ rfl; have G0 := B6.f 0)
            | fail) | fail
          all_goals
            have T := Lib.hid (SX.push1 (y := z) (T3.out.next (ext1 w6 (.cells #[.int .i64 z] 2))) hown6 hgrow hat)
            have HLQ : Hid ((xs ++ [z]).length = xs.length + 1) := by unfold Hid; rw [List.length_append]; rfl
            clear hz hb4 hown6 hgrow hat hlt B6 z0 G0 m0 n0 T3 K3 S3 O6 hb3
            go_wp2
            go_roundw
            case rel => exact ⟨k - 1, xs ++ [z], _, _, val_int (by omega), by omega, by rw [HLQ.out]; omega, by rw [HLQ.out]; exact T.out.more (by omega)⟩
            case measure => simp [intOf]; omega
        · have h0i : ¬ (0 : Int) < (k : Int) := by omega
          go_wp2_with fail
          refine (srcPick_any g B _ 4 _ T0.out.src (by omega) (by omega)).mono ?_
          rintro e w8 ⟨m', m1, m2, rfl, S1, K1⟩
          have T := Lib.hid (T0.out.kept S1 K1)
          clear S1 K1 T0
          obtain ⟨m', rfl⟩ : ∃ j : Nat, m' = (j : Int) := ⟨m'.toNat, by omega⟩
          have hm4 : m' ≤ 3 := by omega
          clear m1 m2 h0 h0i
          have HXL : Hid (xs.length ≤ 4) := by unfold Hid; omega
          clear hxk hk hm3
          go_wp2_with fail
          go_loopw [9] (fun t wr => ∃ (k : Nat) (ys zs : List Int) (A2 : Option Addr) (c2 : Nat) (A3 : Option Addr) (c3 : Nat), t = .int .i64 k ∧ k ≤ 3 ∧ ys.length + k ≤ 3 ∧ zs.length + k ≤ 3 ∧ Hid (SX g B (N + 66 + 6 * (3 - k)) b ⟨xs, ys, zs⟩ (.slice A xs.length c) (.slice A2 ys.length c2) (.slice A3 zs.length c3) w wr)) (fun t _ => (intOf t).toNat)
          case atStart => exact ⟨m', [], [], _, _, _, _, rfl, hm4, by simp; omega, by simp; omega, T.out.more (by omega)⟩
          case round =>
            obtain ⟨k, ys, zs, A2, c2, A3, c3, rfl, hk, hyk, hzk, HT⟩ := hrel
            clear T
            have T0 := HT
            clear HT
            by_cases h0 : 0 < k
            · have h0i : (0 : Int) < (k : Int) := by omega
              go_upto_region 19 with fail
              go_cut [9] (fun v wx => v = .int .i64 (k : Int) ∧ ∃ (zz : Int) (B2 : Option Addr) (d2 : Nat), Hid (SX g B (N + 68 + 6 * (3 - k)) b ⟨xs, ys ++ [zz], zs⟩ (.slice A xs.length c) (.slice B2 (ys.length + 1) d2) (.slice A3 zs.length c3) w wx))
              case first =>
               have u1 := T0.out.x.at 1 _ rfl
               have v1 := T0.out.x.f 1
               first | go_region_law (first
                | (go_simp; go_at_call 35; ((with_reducible refine (srcPick_any g B _ 6 _ (T0.out.src.next (ext_drew (Below.refl _ _))) (by omega) (by omega)).mono ?_); rintro e w6 ⟨y, y1, y2, rfl, S3, K3'⟩; have K3 : Keep g wr w6 := (Keep.refl g wr).drew.trans K3'; have T3 := Lib.hid (T0.out.kept S3 K3); have hb3 : w.heap.size + 1 ≤ w6.heap.size + 1 := Nat.succ_le_succ T3.out.keep.2.1; obtain ⟨z, hz⟩ : ∃ z, IntKind.i64.wrap (1 + y) = z := ⟨_, rfl⟩; have O6 : (w6.alloc (.cells #[.int .i64 z] 2)).ownsRow (w.heap.size + 1) 2 1 (.slice A2 ys.length c2) ys.length (ys.map (Value.int .i64)) := (T3.out.next (ext1 w6 (.cells #[.int .i64 z] 2))).o.o2; have hb4 : b < w6.heap.size := T3.out.x.lt; have m0 := T3.out.x.at 1 _ rfl; have n0 := T3.out.x.f 1))
                | (refine step_append_lies _ (by rfl) _ _ _ (by rfl) (w.heap.size + 1) 2 ti (.int .i64 0) 1 8 Tryz.underlying24 HI.out hz0 hz1 hz2 rfl (by decide) _ _ _ (by rfl) O6 ⟨w6.heap.size, 0, none⟩ 1 1 [.int .i64 z] (by rfl) (by rfl) (news_row1 _ _ _ rfl) (by simp [Value.oneCell']) (by omega) (by unfold maxLen; omega) (by omega) (by simp only [World.size_alloc]; exact hb3) _ rfl ?_; intro g6 cap6 w7 hown6 hgrow hat hlt; have B6 := (T3.out.next (ext1 w6 (.cells #[.int .i64 z] 2))).x.grown hgrow T3.out.f2; have z0 := B6.at 1 _ rfl; have G0 := B6.f 1)
                | fail) | fail
               all_goals
                have T := Lib.hid (SX.push2 (y := z) (T3.out.next (ext1 w6 (.cells #[.int .i64 z] 2))) hown6 hgrow hat)
                go_wp2_with fail
                go_meet
                exact ⟨rfl, z, _, _, T.out.more (by omega)⟩
              case rest =>
                obtain ⟨rfl, zz, B2, d2, HT⟩ := hcut
                clear T0
                have T0 := HT
                clear HT
                have HLQ : Hid ((ys ++ [zz]).length = ys.length + 1) := by unfold Hid; rw [List.length_append]; rfl
                have u2 := T0.out.x.at 2 _ rfl
                have v2 := T0.out.x.f 2
                go_wp2_with fail
                first | go_region_law (first
                  | (go_simp; go_at_call 35; ((with_reducible refine (srcPick_any g B _ 2 _ (T0.out.src.next (ext_drew (Below.refl _ _))) (by omega) (by omega)).mono ?_); rintro e w8 ⟨p, p1, p2, rfl, S3, K3'⟩; have K3 : Keep g wc w8 := (Keep.refl g wc).drew.trans K3'; have T5 := Lib.hid (T0.out.kept S3 K3); have m0 := T5.out.x.at 2 _ rfl; have n0 := T5.out.x.f 2))
                  | (go_simp; go_at_call 35; ((with_reducible refine (srcPick_any g B _ 3 _ T5.out.src (by omega) (by omega)).mono ?_); rintro e w6 ⟨y, y1, y2, rfl, S4, K4⟩; have T3 := Lib.hid (T5.out.kept S4 K4); have hb3 : w.heap.size + 1 ≤ w6.heap.size + 1 := Nat.succ_le_succ T3.out.keep.2.1; obtain ⟨z, hz⟩ : ∃ z, IntKind.i64.wrap (p * y) = z := ⟨_, rfl⟩; have O6 : (w6.alloc (.cells #[.int .i64 z] 2)).ownsRow (w.heap.size + 1) 2 1 (.slice A3 zs.length c3) zs.length (zs.map (Value.int .i64)) := (T3.out.next (ext1 w6 (.cells #[.int .i64 z] 2))).o.o3; have hb4 : b < w6.heap.size := T3.out.x.lt; have m1 := T3.out.x.at 2 _ rfl; have n1 := T3.out.x.f 2))
                  | (refine step_append_lies _ (by rfl) _ _ _ (by rfl) (w.heap.size + 1) 2 ti (.int .i64 0) 1 8 Tryz.underlying24 HI.out hz0 hz1 hz2 rfl (by decide) _ _ _ (by rfl) O6 ⟨w6.heap.size, 0, none⟩ 1 1 [.int .i64 z] (by rfl) (by rfl) (news_row1 _ _ _ rfl) (by simp [Value.oneCell']) (by omega) (by unfold maxLen; omega) (by omega) (by simp only [World.size_alloc]; exact hb3) _ rfl ?_; intro g7 cap7 w7' hown6 hgrow hat hlt; have B6 := (T3.out.next (ext1 w6 (.cells #[.int .i64 z] 2))).x.grown hgrow T3.out.f3; have z0 := B6.at 2 _ rfl; have G0 := B6.f 2)
                  | fail) | fail
                all_goals
                  have T := Lib.hid (SX.push3 (y := z) (T3.out.next (ext1 w6 (.cells #[.int .i64 z] 2))) hown6 hgrow hat)
                  have HLR : Hid ((zs ++ [z]).length = zs.length + 1) := by unfold Hid; rw [List.length_append]; rfl
                  clear hz hb4 hown6 hgrow hat hlt B6 z0 G0 m0 n0 m1 n1 T3 T5 K3 S3 K4 S4 O6 hb3 T0 u2 v2
                  go_wp2
                  go_roundw
                  case rel => exact ⟨k - 1, _, _, _, _, _, _, val_int (by omega), by omega, by rw [HLQ.out]; omega, by rw [HLR.out]; omega, by rw [HLQ.out, HLR.out]; exact T.out.more (by omega)⟩
                  case measure => simp [intOf]; omega
            · have h0i : ¬ (0 : Int) < (k : Int) := by omega
              have HLN : Hid (xs.length ≤ 30 ∧ ys.length ≤ 30 ∧ zs.length ≤ 30) := by have := HXL.out; unfold Hid; omega
              have HE := Lib.hid (T0.out.fin (M := N + 100) (by omega))
              have R1 := Lib.hid T0.out.r
              have r0 := R1.out.at 0 _ rfl
              have r1 := R1.out.at 1 _ rfl
              have r2 := R1.out.at 2 _ rfl
              have f0 := R1.out.f 0
              have f1 := R1.out.f 1
              have f2 := R1.out.f 2
              obtain ⟨s0, s1, s2⟩ := set_three r0 r1 r2
              have x0 := T0.out.x.at 0 _ rfl
              have x1' := T0.out.x.at 1 _ rfl
              have x2' := T0.out.x.at 2 _ rfl
              clear T0 R1
              go_wp2
              refine bodyPost_ret (v := .agg #[.slice A xs.length c, .slice A2 ys.length c2, .slice A3 zs.length c3]) ?_ rfl ⟨⟨xs, ys, zs⟩, _, _, _, rfl, (HE.out _ _ _).1, HLN.out, (HE.out _ _ _).2.1, (HE.out _ _ _).2.2⟩
              simp [results, Tryz.results80, go_sem, s0, s1, s2]
  by_cases e1 : k = 1
  · skip
    go_wp2_with fail
    refine (l02Draw500_any g B _ _ S.out (by omega)).mono ?_
    rintro e w2 ⟨p, q, rfl, S1, K1⟩
    have S := Lib.hid S1
    have R1 := Lib.hid (BoxV.keepK R1.out K1 (by have := HG.out; omega))
    have K := Lib.hid (K.out.trans K1)
    clear S1 K1
    go_wp2_with fail
    have HS0 := Lib.hid S.out.lt
    have HB := Lib.hid R1.out.lt
    refine (SourceOfFraction_any p q _).mono ?_
    rintro e w3 ⟨s, v1, v2, v3, c, rfl, ho, hl, hb⟩
    have S := Lib.hid (S.out.next hb)
    have R1 := Lib.hid (R1.out.next hb)
    have K := Lib.hid (K.out.trans (Keep.of hb HS0.out))
    clear hb HS0
    have O := Lib.hid (ho.more (B' := w2.heap.size) (Nat.le_succ _))
    have HB3 : Hid (w.heap.size < w2.heap.size) := HB.out
    have HS3 := Lib.hid S.out.lt
    have HLN := Lib.hid hl
    clear ho hl HB
    obtain ⟨A1, c1, rfl⟩ : ∃ A c, v1 = .slice A s.hd.length c := own_slice O.out.o1
    obtain ⟨A2, c2, rfl⟩ : ∃ A c, v2 = .slice A s.pd.length c := own_slice O.out.o2
    obtain ⟨A3, c3, rfl⟩ : ∃ A c, v3 = .slice A s.gr.length c := own_slice O.out.o3
    obtain ⟨n1, hn1⟩ : ∃ n, s.hd.length = n := ⟨_, rfl⟩
    obtain ⟨n2, hn2⟩ : ∃ n, s.pd.length = n := ⟨_, rfl⟩
    obtain ⟨n3, hn3⟩ : ∃ n, s.gr.length = n := ⟨_, rfl⟩
    rw [hn1, hn2, hn3] at O ⊢
    clear hn1 hn2 hn3
    obtain ⟨v1, hv1⟩ : ∃ v : Value, v = .slice A1 n1 c1 := ⟨_, rfl⟩
    obtain ⟨v2, hv2⟩ : ∃ v : Value, v = .slice A2 n2 c2 := ⟨_, rfl⟩
    obtain ⟨v3, hv3⟩ : ∃ v : Value, v = .slice A3 n3 c3 := ⟨_, rfl⟩
    rw [← hv1, ← hv2, ← hv3] at O
    have HV := Lib.hid (And.intro hv1 (And.intro hv2 hv3))
    clear hv1 hv2 hv3
    obtain ⟨rfl, rfl, rfl⟩ := HV.out
    have R1 := Lib.hid (R1.out.alloc (.cells #[.slice A1 n1 c1, .slice A2 n2 c2, .slice A3 n3 c3] 26))
    have X := Lib.hid (BoxV.new w3 #[.slice A1 n1 c1, .slice A2 n2 c2, .slice A3 n3 c3] 26)
    have S := Lib.hid (S.out.next (ext1 w3 (.cells #[.slice A1 n1 c1, .slice A2 n2 c2, .slice A3 n3 c3] 26)))
    have K := Lib.hid (K.out.trans (Keep.of (ext1 w3 (.cells #[.slice A1 n1 c1, .slice A2 n2 c2, .slice A3 n3 c3] 26)) HS3.out))
    have O := Lib.hid (O.out.next (ext1 w3 (.cells #[.slice A1 n1 c1, .slice A2 n2 c2, .slice A3 n3 c3] 26)))
    have r0 := R1.out.at 0 _ rfl
    have r1 := R1.out.at 1 _ rfl
    have r2 := R1.out.at 2 _ rfl
    have f0 := R1.out.f 0
    have f1 := R1.out.f 1
    have f2 := R1.out.f 2
    obtain ⟨s0, s1, s2⟩ := set_three r0 r1 r2
    have x0 := X.out.at 0 _ rfl
    have x1 := X.out.at 1 _ rfl
    have x2 := X.out.at 2 _ rfl
    have OF := Lib.hid (((O.out.low (b := w.heap.size) (j := 0) (u := .slice A1 n1 c1) HB3.out).low (b := w.heap.size) (j := 1) (u := .slice A2 n2 c2) HB3.out).low (b := w.heap.size) (j := 2) (u := .slice A3 n3 c3) HB3.out)
    have SF := Lib.hid ((((S.out.more (M := N + 100) (by omega)).setOther HG.out 0 (.slice A1 n1 c1)).setOther HG.out 1 (.slice A2 n2 c2)).setOther HG.out 2 (.slice A3 n3 c3))
    have KF := Lib.hid (((K.out.setOther HG.out (Nat.le_refl _) 0 (.slice A1 n1 c1)).setOther HG.out (Nat.le_refl _) 1 (.slice A2 n2 c2)).setOther HG.out (Nat.le_refl _) 2 (.slice A3 n3 c3))
    go_wp2
    refine bodyPost_ret (v := .agg #[.slice A1 n1 c1, .slice A2 n2 c2, .slice A3 n3 c3]) ?_ rfl ⟨s, _, _, _, rfl, OF.out.more (Nat.succ_le_of_lt HB3.out), HLN.out, SF.out, KF.out⟩
    simp [results, Tryz.results80, go_sem, s0, s1, s2]
  by_cases e2 : k = 2
  · skip
    go_wp2_with fail
    have HS0 := Lib.hid S.out.lt
    have HB := Lib.hid R1.out.lt
    refine (SourceOfE_any _).mono ?_
    rintro e w3 ⟨s, v1, v2, v3, rfl, ho, hl, hb⟩
    have S := Lib.hid (S.out.next hb)
    have R1 := Lib.hid (R1.out.next hb)
    have K := Lib.hid (K.out.trans (Keep.of hb HS0.out))
    clear hb HS0
    have O := Lib.hid (ho.more (B' := w1.heap.size) (Nat.le_succ _))
    have HB3 : Hid (w.heap.size < w1.heap.size) := HB.out
    have HS3 := Lib.hid S.out.lt
    have HLN := Lib.hid hl
    clear ho hl HB
    obtain ⟨A1, c1, rfl⟩ : ∃ A c, v1 = .slice A s.hd.length c := own_slice O.out.o1
    obtain ⟨A2, c2, rfl⟩ : ∃ A c, v2 = .slice A s.pd.length c := own_slice O.out.o2
    obtain ⟨A3, c3, rfl⟩ : ∃ A c, v3 = .slice A s.gr.length c := own_slice O.out.o3
    obtain ⟨n1, hn1⟩ : ∃ n, s.hd.length = n := ⟨_, rfl⟩
    obtain ⟨n2, hn2⟩ : ∃ n, s.pd.length = n := ⟨_, rfl⟩
    obtain ⟨n3, hn3⟩ : ∃ n, s.gr.length = n := ⟨_, rfl⟩
    rw [hn1, hn2, hn3] at O ⊢
    clear hn1 hn2 hn3
    obtain ⟨v1, hv1⟩ : ∃ v : Value, v = .slice A1 n1 c1 := ⟨_, rfl⟩
    obtain ⟨v2, hv2⟩ : ∃ v : Value, v = .slice A2 n2 c2 := ⟨_, rfl⟩
    obtain ⟨v3, hv3⟩ : ∃ v : Value, v = .slice A3 n3 c3 := ⟨_, rfl⟩
    rw [← hv1, ← hv2, ← hv3] at O
    have HV := Lib.hid (And.intro hv1 (And.intro hv2 hv3))
    clear hv1 hv2 hv3
    obtain ⟨rfl, rfl, rfl⟩ := HV.out
    have r0 := R1.out.at 0 _ rfl
    have r1 := R1.out.at 1 _ rfl
    have r2 := R1.out.at 2 _ rfl
    have f0 := R1.out.f 0
    have f1 := R1.out.f 1
    have f2 := R1.out.f 2
    obtain ⟨s0, s1, s2⟩ := set_three r0 r1 r2
    have OF := Lib.hid (((O.out.low (b := w.heap.size) (j := 0) (u := .slice A1 n1 c1) HB3.out).low (b := w.heap.size) (j := 1) (u := .slice A2 n2 c2) HB3.out).low (b := w.heap.size) (j := 2) (u := .slice A3 n3 c3) HB3.out)
    have SF := Lib.hid ((((S.out.more (M := N + 100) (by omega)).setOther HG.out 0 (.slice A1 n1 c1)).setOther HG.out 1 (.slice A2 n2 c2)).setOther HG.out 2 (.slice A3 n3 c3))
    have KF := Lib.hid (((K.out.setOther HG.out (Nat.le_refl _) 0 (.slice A1 n1 c1)).setOther HG.out (Nat.le_refl _) 1 (.slice A2 n2 c2)).setOther HG.out (Nat.le_refl _) 2 (.slice A3 n3 c3))
    go_wp2
    refine bodyPost_ret (v := .agg #[.slice A1 n1 c1, .slice A2 n2 c2, .slice A3 n3 c3]) ?_ rfl ⟨s, _, _, _, rfl, OF.out.more (Nat.succ_le_of_lt HB3.out), HLN.out, SF.out, KF.out⟩
    simp [results, Tryz.results80, go_sem, s0, s1, s2]
  · skip
    go_wp2_with fail
    refine (srcPick_any g B _ 9 _ S.out (by omega) (by omega)).mono ?_
    rintro e w4 ⟨x, x1, x2, rfl, S1, K1⟩
    have S := Lib.hid S1
    have R1 := Lib.hid (BoxV.keepK R1.out K1 (by have := HG.out; omega))
    have K := Lib.hid (K.out.trans K1)
    clear S1 K1
    have T := Lib.hid (SX.start S.out K.out R1.out HG.out (x - 3) 26)
    clear S K R1
    go_wp2_with fail
    generalize (((w4.alloc (.cells #[.int .i64 (x - 3)] 2)).alloc (.cells #[] 2)).alloc (.cells #[] 2)).alloc (.cells #[.slice (some ⟨w4.heap.size, 0, none⟩) 1 1, .slice (some ⟨w4.heap.size + 1, 0, none⟩) 0 0, .slice (some ⟨w4.heap.size + 1 + 1, 0, none⟩) 0 0] 26) = W4 at *
    generalize w4.heap.size + 1 + 1 + 1 = b at *
    generalize w4.heap.size + 1 + 1 = a3 at *
    generalize w4.heap.size + 1 = a2 at *
    generalize w4.heap.size = a1 at *
    refine (srcPick_any g B _ 4 _ T.out.src (by omega) (by omega)).mono ?_
    rintro e w5 ⟨m, m1, m2, rfl, S1, K1⟩
    have T := Lib.hid (T.out.kept S1 K1)
    clear S1 K1
    obtain ⟨m, rfl⟩ : ∃ j : Nat, m = (j : Int) := ⟨m.toNat, by omega⟩
    have hm3 : m ≤ 3 := by omega
    clear m1 m2
    go_wp2_with fail
    go_loopw [8] (fun t wr => ∃ (k : Nat) (xs : List Int) (A : Option Addr) (c : Nat), t = .int .i64 k ∧ k ≤ 3 ∧ xs.length + k ≤ 4 ∧ Hid (SX g B (N + 56 + 2 * (3 - k)) b ⟨xs, [], []⟩ (.slice A xs.length c) (.slice (some ⟨a2, 0, none⟩) 0 0) (.slice (some ⟨a3, 0, none⟩) 0 0) w wr)) (fun t _ => (intOf t).toNat)
    case atStart => exact ⟨m, [x - 3], _, _, rfl, hm3, by simp; omega, T.out.more (by omega)⟩
    case round =>
      obtain ⟨k, xs, A, c, rfl, hk, hxk, HT⟩ := hrel
      clear T
      have T0 := HT
      clear HT
      by_cases h0 : 0 < k
      · have h0i : (0 : Int) < (k : Int) := by omega
        have u0 := T0.out.x.at 0 _ rfl
        have v0 := T0.out.x.f 0
        go_wp2_with fail
        first | go_region_law (first
          | (go_simp; go_at_call 35; ((with_reducible refine (srcPick_any g B _ 9 _ (T0.out.src.next (ext_drew (Below.refl _ _))) (by omega) (by omega)).mono ?_); rintro e w6 ⟨y, y1, y2, rfl, S3, K3'⟩; have K3 : Keep g wr w6 := (Keep.refl g wr).drew.trans K3'; have T3 := Lib.hid (T0.out.kept S3 K3); have hb3 : w.heap.size + 1 ≤ w6.heap.size + 1 := Nat.succ_le_succ T3.out.keep.2.1; obtain ⟨z, hz⟩ : ∃ z, IntKind.i64.wrap (1 + y) = z := ⟨_, rfl⟩; have O6 : (w6.alloc (.cells #[.int .i64 z] 2)).ownsRow (w.heap.size + 1) 2 1 (.slice A xs.length c) xs.length (xs.map (Value.int .i64)) := (T3.out.next (ext1 w6 (.cells #[.int .i64 z] 2))).o.o1; have hb4 : b < w6.heap.size := T3.out.x.lt; have m0 := T3.out.x.at 0 _ rfl; have n0 := T3.out.x.f 0))
          | (refine step_append_lies _ (by rfl) _ _ _ (by rfl) (w.heap.size + 1) 2 ti (.int .i64 0) 1 8 Tryz.underlying24 HI.out hz0 hz1 hz2 rfl (by decide) _ _ _ (by rfl) O6 ⟨w6.heap.size, 0, none⟩ 1 1 [.int .i64 z] (by rfl) (by rfl) (news_row1 _ _ _ rfl) (by simp [Value.oneCell']) (by omega) (by unfold maxLen; omega) (by omega) (by simp only [World.size_alloc]; exact hb3) _ rfl ?_; intro g6 cap6 w7 hown6 hgrow hat hlt; have B6 := (T3.out.next (ext1 w6 (.cells #[.int .i64 z] 2))).x.grown hgrow T3.out.f1; have z0 := B6.at 0 _ rfl; have G0 := B6.f 0)
          | fail) | fail
        all_goals
          have T := Lib.hid (SX.push1 (y := z) (T3.out.next (ext1 w6 (.cells #[.int .i64 z] 2))) hown6 hgrow hat)
          have HLQ : Hid ((xs ++ [z]).length = xs.length + 1) := by unfold Hid; rw [List.length_append]; rfl
          clear hz hb4 hown6 hgrow hat hlt B6 z0 G0 m0 n0 T3 K3 S3 O6 hb3
          go_wp2
          go_roundw
          case rel => exact ⟨k - 1, xs ++ [z], _, _, val_int (by omega), by omega, by rw [HLQ.out]; omega, by rw [HLQ.out]; exact T.out.more (by omega)⟩
          case measure => simp [intOf]; omega
      · have h0i : ¬ (0 : Int) < (k : Int) := by omega
        go_wp2_with fail
        refine (srcPick_any g B _ 4 _ T0.out.src (by omega) (by omega)).mono ?_
        rintro e w8 ⟨m', m1, m2, rfl, S1, K1⟩
        have T := Lib.hid (T0.out.kept S1 K1)
        clear S1 K1 T0
        obtain ⟨m', rfl⟩ : ∃ j : Nat, m' = (j : Int) := ⟨m'.toNat, by omega⟩
        have hm4 : m' ≤ 3 := by omega
        clear m1 m2 h0 h0i
        have HXL : Hid (xs.length ≤ 4) := by unfold Hid; omega
        clear hxk hk hm3
        go_wp2_with fail
        go_loopw [9] (fun t wr => ∃ (k : Nat) (ys zs : List Int) (A2 : Option Addr) (c2 : Nat) (A3 : Option Addr) (c3 : Nat), t = .int .i64 k ∧ k ≤ 3 ∧ ys.length + k ≤ 3 ∧ zs.length + k ≤ 3 ∧ Hid (SX g B (N + 66 + 6 * (3 - k)) b ⟨xs, ys, zs⟩ (.slice A xs.length c) (.slice A2 ys.length c2) (.slice A3 zs.length c3) w wr)) (fun t _ => (intOf t).toNat)
        case atStart => exact ⟨m', [], [], _, _, _, _, rfl, hm4, by simp; omega, by simp; omega, T.out.more (by omega)⟩
        case round =>
          obtain ⟨k, ys, zs, A2, c2, A3, c3, rfl, hk, hyk, hzk, HT⟩ := hrel
          clear T
          have T0 := HT
          clear HT
          by_cases h0 : 0 < k
          · have h0i : (0 : Int) < (k : Int) := by omega
            go_upto_region 19 with fail
            go_cut [9] (fun v wx => v = .int .i64 (k : Int) ∧ ∃ (zz : Int) (B2 : Option Addr) (d2 : Nat), Hid (SX g B (N + 68 + 6 * (3 - k)) b ⟨xs, ys ++ [zz], zs⟩ (.slice A xs.length c) (.slice B2 (ys.length + 1) d2) (.slice A3 zs.length c3) w wx))
            case first =>
             have u1 := T0.out.x.at 1 _ rfl
             have v1 := T0.out.x.f 1
             first | go_region_law (first
              | (go_simp; go_at_call 35; ((with_reducible refine (srcPick_any g B _ 6 _ (T0.out.src.next (ext_drew (Below.refl _ _))) (by omega) (by omega)).mono ?_); rintro e w6 ⟨y, y1, y2, rfl, S3, K3'⟩; have K3 : Keep g wr w6 := (Keep.refl g wr).drew.trans K3'; have T3 := Lib.hid (T0.out.kept S3 K3); have hb3 : w.heap.size + 1 ≤ w6.heap.size + 1 := Nat.succ_le_succ T3.out.keep.2.1; obtain ⟨z, hz⟩ : ∃ z, IntKind.i64.wrap (1 + y) = z := ⟨_, rfl⟩; have O6 : (w6.alloc (.cells #[.int .i64 z] 2)).ownsRow (w.heap.size + 1) 2 1 (.slice A2 ys.length c2) ys.length (ys.map (Value.int .i64)) := (T3.out.next (ext1 w6 (.cells #[.int .i64 z] 2))).o.o2; have hb4 : b < w6.heap.size := T3.out.x.lt; have m0 := T3.out.x.at 1 _ rfl; have n0 := T3.out.x.f 1))
              | (refine step_append_lies _ (by rfl) _ _ _ (by rfl) (w.heap.size + 1) 2 ti (.int .i64 0) 1 8 Tryz.underlying24 HI.out hz0 hz1 hz2 rfl (by decide) _ _ _ (by rfl) O6 ⟨w6.heap.size, 0, none⟩ 1 1 [.int .i64 z] (by rfl) (by rfl) (news_row1 _ _ _ rfl) (by simp [Value.oneCell']) (by omega) (by unfold maxLen; omega) (by omega) (by simp only [World.size_alloc]; exact hb3) _ rfl ?_; intro g6 cap6 w7 hown6 hgrow hat hlt; have B6 := (T3.out.next (ext1 w6 (.cells #[.int .i64 z] 2))).x.grown hgrow T3.out.f2; have z0 := B6.at 1 _ rfl; have G0 := B6.f 1)
              | fail) | fail
             all_goals
              have T := Lib.hid (SX.push2 (y := z) (T3.out.next (ext1 w6 (.cells #[.int .i64 z] 2))) hown6 hgrow hat)
              go_wp2_with fail
              go_meet
              exact ⟨rfl, z, _, _, T.out.more (by omega)⟩
            case rest =>
              obtain ⟨rfl, zz, B2, d2, HT⟩ := hcut
              clear T0
              have T0 := HT
              clear HT
              have HLQ : Hid ((ys ++ [zz]).length = ys.length + 1) := by unfold Hid; rw [List.length_append]; rfl
              have u2 := T0.out.x.at 2 _ rfl
              have v2 := T0.out.x.f 2
              go_wp2_with fail
              first | go_region_law (first
                | (go_simp; go_at_call 35; ((with_reducible refine (srcPick_any g B _ 2 _ (T0.out.src.next (ext_drew (Below.refl _ _))) (by omega) (by omega)).mono ?_); rintro e w8 ⟨p, p1, p2, rfl, S3, K3'⟩; have K3 : Keep g wc w8 := (Keep.refl g wc).drew.trans K3'; have T5 := Lib.hid (T0.out.kept S3 K3); have m0 := T5.out.x.at 2 _ rfl; have n0 := T5.out.x.f 2))
                | (go_simp; go_at_call 35; ((with_reducible refine (srcPick_any g B _ 3 _ T5.out.src (by omega) (by omega)).mono ?_); rintro e w6 ⟨y, y1, y2, rfl, S4, K4⟩; have T3 := Lib.hid (T5.out.kept S4 K4); have hb3 : w.heap.size + 1 ≤ w6.heap.size + 1 := Nat.succ_le_succ T3.out.keep.2.1; obtain ⟨z, hz⟩ : ∃ z, IntKind.i64.wrap (p * y) = z := ⟨_, rfl⟩; have O6 : (w6.alloc (.cells #[.int .i64 z] 2)).ownsRow (w.heap.size + 1) 2 1 (.slice A3 zs.length c3) zs.length (zs.map (Value.int .i64)) := (T3.out.next (ext1 w6 (.cells #[.int .i64 z] 2))).o.o3; have hb4 : b < w6.heap.size := T3.out.x.lt; have m1 := T3.out.x.at 2 _ rfl; have n1 := T3.out.x.f 2))
                | (refine step_append_lies _ (by rfl) _ _ _ (by rfl) (w.heap.size + 1) 2 ti (.int .i64 0) 1 8 Tryz.underlying24 HI.out hz0 hz1 hz2 rfl (by decide) _ _ _ (by rfl) O6 ⟨w6.heap.size, 0, none⟩ 1 1 [.int .i64 z] (by rfl) (by rfl) (news_row1 _ _ _ rfl) (by simp [Value.oneCell']) (by omega) (by unfold maxLen; omega) (by omega) (by simp only [World.size_alloc]; exact hb3) _ rfl ?_; intro g7 cap7 w7' hown6 hgrow hat hlt; have B6 := (T3.out.next (ext1 w6 (.cells #[.int .i64 z] 2))).x.grown hgrow T3.out.f3; have z0 := B6.at 2 _ rfl; have G0 := B6.f 2)
                | fail) | fail
              all_goals
                have T := Lib.hid (SX.push3 (y := z) (T3.out.next (ext1 w6 (.cells #[.int .i64 z] 2))) hown6 hgrow hat)
                have HLR : Hid ((zs ++ [z]).length = zs.length + 1) := by unfold Hid; rw [List.length_append]; rfl
                clear hz hb4 hown6 hgrow hat hlt B6 z0 G0 m0 n0 m1 n1 T3 T5 K3 S3 K4 S4 O6 hb3 T0 u2 v2
                go_wp2
                go_roundw
                case rel => exact ⟨k - 1, _, _, _, _, _, _, val_int (by omega), by omega, by rw [HLQ.out]; omega, by rw [HLR.out]; omega, by rw [HLQ.out, HLR.out]; exact T.out.more (by omega)⟩
                case measure => simp [intOf]; omega
          · have h0i : ¬ (0 : Int) < (k : Int) := by omega
            have HLN : Hid (xs.length ≤ 30 ∧ ys.length ≤ 30 ∧ zs.length ≤ 30) := by have := HXL.out; unfold Hid; omega
            have HE := Lib.hid (T0.out.fin (M := N + 100) (by omega))
            have R1 := Lib.hid T0.out.r
            have r0 := R1.out.at 0 _ rfl
            have r1 := R1.out.at 1 _ rfl
            have r2 := R1.out.at 2 _ rfl
            have f0 := R1.out.f 0
            have f1 := R1.out.f 1
            have f2 := R1.out.f 2
            obtain ⟨s0, s1, s2⟩ := set_three r0 r1 r2
            have x0 := T0.out.x.at 0 _ rfl
            have x1' := T0.out.x.at 1 _ rfl
            have x2' := T0.out.x.at 2 _ rfl
            clear T0 R1
            go_wp2
            refine bodyPost_ret (v := .agg #[.slice A xs.length c, .slice A2 ys.length c2, .slice A3 zs.length c3]) ?_ rfl ⟨⟨xs, ys, zs⟩, _, _, _, rfl, (HE.out _ _ _).1, HLN.out, (HE.out _ _ _).2.1, (HE.out _ _ _).2.2⟩
            simp [results, Tryz.results80, go_sem, s0, s1, s2]
end Go.Proofs.YtjgafjbccfjojaaGreat
