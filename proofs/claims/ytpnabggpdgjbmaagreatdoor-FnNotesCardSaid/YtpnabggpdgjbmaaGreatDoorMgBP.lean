/- UnpackNotes, the reference's walk. No condition but those that each theorem names. -/
import Derived.Test.YtpnabggpdgjbmaaGreatDoorMgBO
import Derived.Test.YtpnabggpdgjbmaaGreatDoorMgBN
namespace Go.Proofs.YtpnabggpdgjbmaaGreatDoor
open Go.RowKit Go.Sort
/-- What is known of a text whose bytes are a notebook's. -/
theorem unS_head {s : ByteArray} {m : Nat} (hm : s.size = m + 2) : ∀ ys, validNt ys = true → endB (bookB ys) = s → 2 ≤ m ∧ (byI s).take m = bookB ys ∧ (byI s)[0]? = some 78 ∧ (byI s)[m]? = some (ckS (bookB ys) 1 / 256) ∧ (byI s)[m + 1]? = some (ckS (bookB ys) 1 % 256) := fun ys hv he => by
  obtain ⟨b1, b2, b3⟩ := book_bds hv
  obtain ⟨k1, k2⟩ := ckS_bd (bookB ys) 1 b2 (by omega) (by omega)
  have hb : byI s = bookB ys ++ [ckS (bookB ys) 1 / 256, ckS (bookB ys) 1 % 256] := by
    rw [← he]
    unfold endB
    rw [byI_byS]
    intro x hx
    rcases List.mem_append.1 hx with h | h
    · exact b2 x h
    · simp only [List.mem_cons, List.not_mem_nil, or_false] at h
      rcases h with rfl | rfl <;> omega
  have hl := byI_length s
  have hl2 : (bookB ys).length = m := by
    rw [hb, List.length_append] at hl
    simp at hl
    omega
  have h2 : 2 ≤ (bookB ys).length := by unfold bookB; simp
  refine ⟨by omega, ?_, ?_, ?_, ?_⟩
  · rw [hb, ← hl2, List.take_left]
  · rw [hb]; unfold bookB; simp
  · rw [hb, List.getElem?_append_right (by omega), hl2]; simp
  · rw [hb, List.getElem?_append_right (by omega), hl2, show m + 1 - m = 1 by omega]; rfl
theorem unS_end {D2 D : List Int} {o2 ok : Bool} {c j : Nat} {xs : List Nt} {s : ByteArray} (hh : ∀ ys, validNt ys = true → endB (bookB ys) = s → D2 = (ys.map noteB).flatten ∧ c = ys.length ∧ o2 = true) (hb : BokP D2 o2 j xs D ok) (hj : j ≤ c) (hc : j = c ∨ ok = false) :
    ∀ ys, validNt ys = true → endB (bookB ys) = s → xs = ys ∧ ok = true ∧ D = [] := fun ys hv he => by
  obtain ⟨e1, e2, e3⟩ := hh ys hv he
  obtain ⟨q1, q2, q3⟩ := hb ys [] hv (by rw [List.append_nil]; exact e1) e3 (by omega)
  rcases hc with hc | hc
  · refine ⟨by rw [q1, List.take_of_length_le (by omega)], q3, ?_⟩
    rw [q2, List.drop_of_length_le (by omega)]
    rfl
  · rw [q3] at hc; cases hc
set_option maxRecDepth 100000 in
set_option maxHeartbeats 8000000 in
theorem sUnpack_any (s : ByteArray) (w : World) (hs : s.size ≤ 1048576) :
    Calls Tryz.prog 23 #[.string s] w (RetNtL w (unX s) (unC s)) := by
  obtain ⟨ti, hi, hz0, hz1, hz2⟩ := info_parts infoNtU
  have HI := Lib.hid hi
  have HE : Hid ((∀ xs, (∀ ys, validNt ys = true → endB (bookB ys) = s → xs = ys) → validNt xs = true → endB (bookB xs) = s → unX s = xs ∧ unC s = 0) ∧ ((∀ ys, validNt ys = true → endB (bookB ys) = s → False) → unX s = [] ∧ unC s = 8)) := ⟨fun xs h1 h2 h3 => un_good h1 h2 h3, fun h => un_bad h⟩
  clear hi
  generalize unX s = X at *
  generalize unC s = K at *
  by_cases hn4 : s.size < 4
  · have HNQ : Hid (∀ ys, validNt ys = true → endB (bookB ys) = s → False) := fun ys h1 h2 => by
      have h3 := byI_end h1
      rw [h2] at h3
      have h4 := congrArg List.length h3
      rw [byI_length] at h4
      simp at h4
      have h5 := unS_head (s := s) (m := s.size - 2) (by omega) ys h1 h2
      have : 2 ≤ s.size - 2 := h5.1
      omega
    have HNO : Hid (∀ ys, validNt ys = true → endB (bookB ys) = s → False) := fun ys h1 h2 => HNQ.out ys h1 h2
    obtain ⟨e1, e2⟩ := HE.out.2 HNO.out
    subst e1 e2
    have n4 : (s.size : Int) < 4 := by omega
    go_enter Tryz.func23, Tryz.ntmps23
    go_wp2_with fail
    refine wp_region_quiet_below (by kernel_rfl) (by kernel_rfl) ?_
    repeat (first | go_big_quiet_step (fail) | quiet_step (fail))
    refine wpQuiet_nil ?_
    intro _ hw'
    obtain ⟨⟨dq, oq⟩, hw''⟩ := hw'
    subst hw''
    obtain ⟨w1, hW1⟩ : ∃ Wq, Wq = grow (redrawn w dq) oq := ⟨_, rfl⟩
    have hb1 : Below w.heap.size w w1 := by rw [hW1]; exact below_regrown _ _ _
    rw [← hW1]
    clear hW1
    obtain ⟨hc1, hf1⟩ := bcell hb1
    have hy1 := hb1.size
    have HR := Lib.hid (RetNtL.nil_ (w := w) 8 hb1)
    go_wp2
    go_ret2
    exact HR.out
  · obtain ⟨m, hm⟩ : ∃ m, s.size = m + 2 := ⟨s.size - 2, by omega⟩
    have HM := Lib.hid hm
    have hm0 : 0 < s.size := by omega
    have hm1 : m < s.size := by omega
    obtain ⟨k, hk⟩ : ∃ k, m + 1 = k := ⟨_, rfl⟩
    have HK1 := Lib.hid hk
    have hm2 : k < s.size := by omega
    obtain ⟨b0, hb0⟩ : ∃ b, (s[0]).toNat = b := ⟨_, rfl⟩
    obtain ⟨bm, hbm⟩ : ∃ b, (s[m]).toNat = b := ⟨_, rfl⟩
    obtain ⟨bn, hbn⟩ : ∃ b, (s[k]).toNat = b := ⟨_, rfl⟩
    have g0 := byI_get hm0
    have gm := byI_get hm1
    have gn := byI_get hm2
    rw [hb0] at g0
    rw [hbm] at gm
    rw [hbn] at gn
    have hbm5 : bm ≤ 255 := by have := (s[m]).toNat_lt; omega
    have hbn5 : bn ≤ 255 := by have := (s[k]).toNat_lt; omega
    have q0 : ((s[0]).toNat : Int) = (b0 : Int) := by rw [hb0]
    have qm : ((s[m]).toNat : Int) = (bm : Int) := by rw [hbm]
    have qn : ((s[k]).toNat : Int) = (bn : Int) := by rw [hbn]
    obtain ⟨A, hA⟩ : ∃ A, ckS ((byI s).take m) 1 = A := ⟨_, rfl⟩
    have HSUM : Hid (∀ W, Calls Tryz.prog 65 #[.string (s.extract 0 m)] W fun e w' => e = .returned (.int .i64 A) ∧ W = w') := fun W => by
      have h := l27Sum_any (s.extract 0 m) W (by have := byI_length (s.extract 0 m); rw [byI_ext] at this; rw [← this, List.length_take]; omega)
      rw [byI_ext, List.drop_zero, Nat.sub_zero, hA] at h
      exact h
    have HHD : Hid (∀ ys, validNt ys = true → endB (bookB ys) = s → 2 ≤ m ∧ bookB ys = (byI s).take m ∧ b0 = 78 ∧ A = 256 * (bm : Int) + (bn : Int)) := fun ys h1 h2 => by
      obtain ⟨r1, r2, r3, r4, r5⟩ := unS_head HM.out ys h1 h2
      rw [r3] at g0
      rw [r4] at gm
      rw [← HK1.out, r5] at gn
      have t0 := Option.some.inj g0
      have tm := Option.some.inj gm
      have tn := Option.some.inj gn
      rw [r2] at hA
      rw [hA] at tm tn
      exact ⟨r1, r2.symm, by omega, by omega⟩
    have v1 : (s.size : Int) - 2 = (m : Int) := by omega
    have v2 : (s.size : Int) - 1 = (k : Int) := by omega
    have v3 : IntKind.i64.wrap (m : Int) = (m : Int) := IntWalk.i64_in _ (by omega)
    have v4 : IntKind.i64.wrap (k : Int) = (k : Int) := IntWalk.i64_in _ (by omega)
    have v5 : IntKind.i64.wrap (256 * (bm : Int)) = 256 * (bm : Int) := IntWalk.i64_in _ (by omega)
    have v6 : IntKind.i64.wrap (256 * (bm : Int) + (bn : Int)) = 256 * (bm : Int) + (bn : Int) := IntWalk.i64_in _ (by omega)
    have v7 : IntKind.i64.wrap (bm : Int) = (bm : Int) := IntWalk.i64_in _ (by omega)
    have v8 : IntKind.i64.wrap (bn : Int) = (bn : Int) := IntWalk.i64_in _ (by omega)
    have i0 : (0 : Int) ≤ (m : Int) := by omega
    have i1 : (m : Int) < (s.size : Int) := by omega
    have i2 : (k : Int) < (s.size : Int) := by omega
    have i4 : (0 : Int) ≤ (k : Int) := by omega
    have i3 : (m : Int) ≤ (s.size : Int) := by omega
    have n4 : ¬ (s.size : Int) < 4 := by omega
    clear hA hb0 hbm hbn g0 gm gn hm hk
    by_cases hgo : b0 = 78 ∧ A = 256 * (bm : Int) + (bn : Int)
    · obtain ⟨c0, c1⟩ := hgo
      have c2 : ((b0 : Int) != 78) = false := by simp; omega
      have c3 : (A != 256 * (bm : Int) + (bn : Int)) = false := by simp; omega
      clear c0 c1
      go_enter Tryz.func23, Tryz.ntmps23
      go_wp2_with fail
      refine wp_region_quiet_below (by kernel_rfl) (by kernel_rfl) ?_
      repeat (first | go_big_quiet_step ((with_reducible exact regrown_same (HSUM.out _))) | quiet_step ((with_reducible exact regrown_same (HSUM.out _))))
      refine wpQuiet_nil ?_
      intro _ hw'
      obtain ⟨⟨dq, oq⟩, hw''⟩ := hw'
      subst hw''
      obtain ⟨w1, hW1⟩ : ∃ Wq, Wq = grow (redrawn w dq) oq := ⟨_, rfl⟩
      have hb1 : Below w.heap.size w w1 := by rw [hW1]; exact below_regrown _ _ _
      rw [← hW1]
      clear hW1
      obtain ⟨hc1, hf1⟩ := bcell hb1
      have hy1 := hb1.size
      have HL1 := byI_length (s.extract 1 m)
      have HSB : Hid (byI (s.extract 1 m) = ((byI s).take m).drop 1) := by
        unfold Hid
        rw [byI_ext, List.drop_take]
      obtain ⟨S, hSS⟩ : ∃ S, s.extract 1 m = S := ⟨_, rfl⟩
      have hSz : S.size ≤ 1048576 := by
        rw [hSS] at HSB
        have h := congrArg List.length HSB.out
        rw [byI_length, List.length_drop, List.length_take] at h
        have := byI_length s
        omega
      rw [hSS] at HSB
      have e1 := ext1 w1 (.cells #[.string S, .int .i64 0, .bool true] 93)
      have H : Hid (StS w1.heap.size S (byI S) true (w1.alloc (.cells #[.string S, .int .i64 0, .bool true] 93))) := ⟨0, Nat.zero_le _, rfl, BoxV.new _ _ _⟩
      have e2 := ext1 (w1.alloc (.cells #[.string S, .int .i64 0, .bool true] 93)) (.cells #[] 31)
      replace H := Lib.hid (H.out.next e2)
      have O : Hid (OutNt w (w1.heap.size + 1) [] (fun _ => 0) (.slice (some ⟨w1.heap.size + 1, 0, none⟩) 0 0) ((w1.alloc (.cells #[.string S, .int .i64 0, .bool true] 93)).alloc (.cells #[] 31))) := by
        refine ⟨?_, fun _ _ h => by simp at h, fun _ _ => rfl, ext_trans (ext_trans hb1 e1) e2, by have := hb1.size; omega, by simp⟩
        have h := World.ownsRow_lit (base := w1.heap.size + 1) (e := 31) (size := 8) (w1.alloc (.cells #[.string S, .int .i64 0, .bool true] 93)) #[] 0 (by simp) (by unfold maxLen; omega) rfl
        simpa [flatR] using h
      have hwg := hb1.size
      clear e1 e2 c2 c3 HL1 HSUM hb1 hc1 hf1 hy1
      go_wp2_with fail
      generalize (w1.alloc (.cells #[.string S, .int .i64 0, .bool true] 93)).alloc (.cells #[] 31) = W2 at *
      generalize w1.heap.size = g at *
      refine (byte_any g S _ true _ H.out hSz).mono ?_
      rintro e w2 ⟨c, D2, o2, rfl, hb, S1, K1⟩
      replace O := Lib.hid (O.out.kept K1 (Nat.lt_succ_self _) hwg)
      replace H := Lib.hid S1
      have hl2 : D2.length ≤ 1048576 := by
        have h := hb.len.1
        rw [byI_length] at h
        omega
      have hc5 : c ≤ 255 := hb.1
      have HH : Hid (∀ ys, validNt ys = true → endB (bookB ys) = s → D2 = (ys.map noteB).flatten ∧ c = ys.length ∧ o2 = true) := fun ys h1 h2 => by
        obtain ⟨r1, r2, _, _⟩ := HHD.out ys h1 h2
        have h3 := HSB.out
        rw [← r2] at h3
        have h4 : byI S = (ys.length : Int) :: (ys.map noteB).flatten := by rw [h3]; unfold bookB; simp
        obtain ⟨t1, t2, t3⟩ := hb.hit h4 rfl
        exact ⟨t2, by omega, t3⟩
      clear hb S1 K1 HHD HSB hSS
      go_wp2_with fail
      go_loopw [6, 7] (fun v t wr => ∃ (j : Nat) (rs : List NtR) (own : Nat → Nat) (D : List Int) (ok : Bool), t = .int .i64 ((c : Int) - (j : Int)) ∧ j ≤ c ∧ rs.length ≤ j ∧ D.length ≤ 1048576 ∧ Hid (BokP D2 o2 j (rs.map NtR.x) D ok) ∧ Hid (∀ x ∈ rs.map NtR.x, x.name.size ≤ 255 ∧ x.terms.length ≤ 1048577) ∧ Hid (StS g S D ok wr) ∧ Hid (OutNt w (g + 1) rs own v wr)) (fun _ t _ => (intOf t).toNat)
      case atStart => exact ⟨0, [], _, D2, o2, by simp, by omega, by simp, hl2, BokP.start _ _, fun x hx => by simp at hx, H.out, O.out⟩
      case round =>
        obtain ⟨j, rs, own, D, ok, rfl, hj, hrl, hD, HB, HF, HS, HO⟩ := hrel
        clear H O
        have HSS := Lib.hid HS.out
        obtain ⟨p, hp, hR, hBx⟩ := HSS.out
        have HR0 := Lib.hid hR
        have x0 := hBx.at 0 _ rfl
        have x1 := hBx.at 1 _ rfl
        have x2 := hBx.at 2 _ rfl
        have k0 : ∀ x os, (grow (redrawn wr x) os).cell? ⟨g, 0, none⟩ = some (.string S) := cell_regrown x0
        have k1 : ∀ x os, (grow (redrawn wr x) os).cell? ⟨g, 1, none⟩ = some (.int .i64 (p : Int)) := cell_regrown x1
        have k2 : ∀ x os, (grow (redrawn wr x) os).cell? ⟨g, 2, none⟩ = some (.bool ok) := cell_regrown x2
        clear hR
        by_cases hjc : j < c
        · have hp0 : 0 < (c : Int) - (j : Int) := by omega
          cases ok
          · have HU := Lib.hid (unS_end HH.out HB.out hj (.inr rfl))
            have HNQ : Hid (∀ ys, validNt ys = true → endB (bookB ys) = s → False) := fun ys h1 h2 => by have := (HU.out ys h1 h2).2.1; cases this
            have HNO : Hid (∀ ys, validNt ys = true → endB (bookB ys) = s → False) := fun ys h1 h2 => HNQ.out ys h1 h2
            obtain ⟨e1, e2⟩ := HE.out.2 HNO.out
            subst e1 e2
            have HBL := Lib.hid HO.out.bel
            clear HU HB HH HS HSS HO HF
            go_wp2_with fail
            refine wp_region_quiet_below (by kernel_rfl) (by kernel_rfl) ?_
            repeat (first | go_big_quiet_step (fail) | quiet_step (fail))
            refine wpQuiet_nil ?_
            intro _ hw'
            obtain ⟨⟨dq, oq⟩, hw''⟩ := hw'
            subst hw''
            obtain ⟨w3, hW3⟩ : ∃ Wq, Wq = grow (redrawn wr dq) oq := ⟨_, rfl⟩
            have hb3 : Below wr.heap.size wr w3 := by rw [hW3]; exact below_regrown _ _ _
            rw [← hW3]
            clear hW3
            obtain ⟨hc3, hf3⟩ := bcell hb3
            have hy3 := hb3.size
            have HR := Lib.hid (RetNtL.nil_ (w := w) 8 (ext_trans HBL.out hb3))
            go_wp2
            go_ret2
            exact HR.out
          · clear hBx HSS HR0
            go_wp2_with fail
            refine (noteS_any g S D true _ HS.out hSz).mono ?_
            rintro e w3 ⟨x, v3, D3, o3, rfl, hx, S3, K3, hrow⟩
            obtain ⟨T3, c3, rfl⟩ := own_slice hrow
            have hT3 := (own_wrT hrow).more (B' := wr.heap.size) (Nat.le_succ _)
            have HO3 := Lib.hid (HO.out.kept K3 (Nat.lt_succ_self _) hwg)
            have hown := HO3.out.row.alloc (.cells #[.string x.name, .int .i64 x.kind, .int .i64 x.num, .int .i64 x.den, .slice T3 x.terms.length c3, .int .i64 x.sp, .int .i64 x.sd, .int .i64 x.sq] 31)
            have hhi := HO3.out.hi
            have HX := Lib.hid hx
            have HK3 := Lib.hid K3
            have HT3 := Lib.hid hT3
            have HS3 := Lib.hid S3
            have hw1 : IntKind.i64.wrap ((c : Int) - (j : Int) - 1) = (c : Int) - (j : Int) - 1 := IntWalk.i64_in _ (by omega)
            have hrl2 : rs.length ≤ 255 := by omega
            obtain ⟨A2, cp, rfl⟩ := own_slice HO.out.row
            clear hT3 hx S3 K3 hrow HS x0 x1 x2 k0 k1 k2
            go_wp2_with (at_builtin; refine wpList_append_lies _ rfl _ _ 24 rfl (g + 1) 31 ti (ntV ByteArray.empty 0 0 0 none 0 0 0 0 0) 8 88 Tryz.underlying24 HI.out hz0 hz1 hz2 rfl (by decide) _ _ _ rfl hown ⟨w3.heap.size, 0, none⟩ 1 1 (ntC x T3 c3) rfl rfl (news_rowN _ _ _ rfl) ?c2 (by omega) ?c3 ?c4 ?c5 _ rfl ?_)
            case c2 => simp [ntC, Value.oneCell']
            case c3 => unfold maxLen; omega
            case c4 => omega
            case c5 => simp only [World.size_alloc]; omega
            intro g6 cap6 w6 hown3 hgrow hat hlt6
            have HP := Lib.hid (OutNt.pushK HO.out HK3.out (Nat.lt_succ_self _) hwg HT3.out (ext1 _ _) hown3 hgrow (by simpa only [World.size_alloc] using hat))
            have hrg : (Value.slice A2 rs.length cp).ownBlock ≠ some g := fun e => by have := (HO3.out.row.lt _ e).1; omega
            have HS6 := Lib.hid ((HS3.out.next (ext1 w3 (.cells #[.string x.name, .int .i64 x.kind, .int .i64 x.num, .int .i64 x.den, .slice T3 x.terms.length c3, .int .i64 x.sp, .int .i64 x.sd, .int .i64 x.sq] 31))).grown hgrow hrg)
            have HB6 : Hid (BokP D2 o2 (j + 1) ((rs ++ [(⟨x, T3, c3⟩ : NtR)]).map NtR.x) D3 o3) := by
              unfold Hid
              rw [List.map_append]
              exact HB.out.step HX.out
            have HF6 : Hid (∀ y ∈ (rs ++ [(⟨x, T3, c3⟩ : NtR)]).map NtR.x, y.name.size ≤ 255 ∧ y.terms.length ≤ 1048577) := fun y hy => by
              rw [List.map_append] at hy
              rcases List.mem_append.1 hy with hy | hy
              · exact HF.out y hy
              · simp only [List.map_cons, List.map_nil, List.mem_cons, List.not_mem_nil, or_false] at hy
                subst hy
                have h1 := HX.out.1
                have h2 := HX.out.2.1
                exact ⟨h1, by omega⟩
            have hD3 : D3.length ≤ 1048576 := Nat.le_trans HX.out.2.2.2.1 hD
            clear hown3 hgrow hat hlt6 HO HO3 HS3 HT3 HK3 hown hrg HX
            go_wp2
            go_roundw
            case rel => exact ⟨j + 1, _, _, D3, o3, by congr 1; omega, by omega, by simp; omega, hD3, HB6.out, HF6.out, HS6.out, HP.out⟩
            case measure => simp [intOf]; omega
        · have hp0 : ¬ 0 < (c : Int) - (j : Int) := by omega
          have HU := Lib.hid (unS_end HH.out HB.out hj (.inl (by omega)))
          have HBL := Lib.hid HO.out.bel
          clear HB HH HS HSS
          cases ok
          · have HNQ : Hid (∀ ys, validNt ys = true → endB (bookB ys) = s → False) := fun ys h1 h2 => by have := (HU.out ys h1 h2).2.1; cases this
            have HNO : Hid (∀ ys, validNt ys = true → endB (bookB ys) = s → False) := fun ys h1 h2 => HNQ.out ys h1 h2
            obtain ⟨e1, e2⟩ := HE.out.2 HNO.out
            subst e1 e2
            clear HU HO HF
            go_wp2_with fail
            refine wp_region_quiet_below (by kernel_rfl) (by kernel_rfl) ?_
            repeat (first | go_big_quiet_step (fail) | quiet_step (fail))
            refine wpQuiet_nil ?_
            intro _ hw'
            obtain ⟨⟨dq, oq⟩, hw''⟩ := hw'
            subst hw''
            obtain ⟨w3, hW3⟩ : ∃ Wq, Wq = grow (redrawn wr dq) oq := ⟨_, rfl⟩
            have hb3 : Below wr.heap.size wr w3 := by rw [hW3]; exact below_regrown _ _ _
            rw [← hW3]
            clear hW3
            obtain ⟨hc3, hf3⟩ := bcell hb3
            have hy3 := hb3.size
            have HR := Lib.hid (RetNtL.nil_ (w := w) 8 (ext_trans HBL.out hb3))
            go_wp2
            go_ret2
            exact HR.out
          · by_cases hpe : p = S.size
            · have p1 : ((p : Int) != (S.size : Int)) = false := by simp; omega
              clear hpe
              obtain ⟨A2, cp, rfl, hwd⟩ := HO.out.wr
              generalize hxs : rs.map NtR.x = xs at *
              have HXS := Lib.hid hxs
              have HRD : Hid (RdNt wr wr.heap.size A2 xs) := hwd.rd
              have hlx : xs.length ≤ 1000 := by
                rw [← hxs, List.length_map]; omega
              have HOK : Hid (∀ W, Below wr.heap.size wr W → Calls Tryz.prog 39 #[.slice A2 xs.length cp] W fun e w' => e = .returned (.bool (validNt xs)) ∧ Below W.heap.size W w') := fun W hb =>
                l27Ok_any A2 cp xs W (HRD.out.next hb) (fun x hx => by have := HF.out x hx; unfold Nt.fits maxLen; omega) (by unfold maxLen; omega)
              clear hxs hwd
              cases hv : validNt xs
              · have HNQ : Hid (∀ ys, validNt ys = true → endB (bookB ys) = s → False) := fun ys h1 h2 => by
                  have h3 := (HU.out ys h1 h2).1
                  rw [h3, h1] at hv
                  cases hv
                have HNO : Hid (∀ ys, validNt ys = true → endB (bookB ys) = s → False) := fun ys h1 h2 => HNQ.out ys h1 h2
                obtain ⟨e1, e2⟩ := HE.out.2 HNO.out
                subst e1 e2
                rw [hv] at HOK
                clear HU HO HF HRD hv
                go_wp2_with fail
                refine wp_region_quiet_below (by kernel_rfl) (by kernel_rfl) ?_
                repeat (first | go_big_quiet_step ((with_reducible exact Calls.regrown_of (HOK.out _ (below_regrown _ _ _)))) | quiet_step ((with_reducible exact Calls.regrown_of (HOK.out _ (below_regrown _ _ _)))))
                refine wpQuiet_nil ?_
                intro _ hw'
                obtain ⟨⟨dq, oq⟩, hw''⟩ := hw'
                subst hw''
                obtain ⟨w3, hW3⟩ : ∃ Wq, Wq = grow (redrawn wr dq) oq := ⟨_, rfl⟩
                have hb3 : Below wr.heap.size wr w3 := by rw [hW3]; exact below_regrown _ _ _
                rw [← hW3]
                clear hW3
                obtain ⟨hc3, hf3⟩ := bcell hb3
                have hy3 := hb3.size
                have HR := Lib.hid (RetNtL.nil_ (w := w) 8 (ext_trans HBL.out hb3))
                go_wp2
                go_ret2
                exact HR.out
              · have HPK : Hid (∀ W, Below wr.heap.size wr W → Calls Tryz.prog 60 #[.slice A2 xs.length cp] W fun e w' => e = .returned (.string (endB (bookB xs))) ∧ Below W.heap.size W w') := fun W hb =>
                  l27Pack_any A2 cp xs W (HRD.out.next hb) (valid_all hv).1 hv
                rw [hv] at HOK
                by_cases hes : endB (bookB xs) = s
                · obtain ⟨e1, e2⟩ := HE.out.1 xs (fun ys h1 h2 => (HU.out ys h1 h2).1) hv hes
                  rw [hes] at HPK
                  have HX2 : Hid (rs.map NtR.x = X) := by unfold Hid; rw [HXS.out, e1]
                  subst e2
                  clear HU hv hes e1 HE
                  go_wp2_with fail
                  refine wp_region_quiet_below (by kernel_rfl) (by kernel_rfl) ?_
                  repeat (first | go_big_quiet_step ((first | (with_reducible exact Calls.regrown_of (HOK.out _ (below_regrown _ _ _))) | (with_reducible exact Calls.regrown_of (HPK.out _ (below_regrown _ _ _))))) | quiet_step ((first | (with_reducible exact Calls.regrown_of (HOK.out _ (below_regrown _ _ _))) | (with_reducible exact Calls.regrown_of (HPK.out _ (below_regrown _ _ _))))))
                  refine wpQuiet_nil ?_
                  intro _ hw'
                  obtain ⟨⟨dq, oq⟩, hw''⟩ := hw'
                  subst hw''
                  obtain ⟨w3, hW3⟩ : ∃ Wq, Wq = grow (redrawn wr dq) oq := ⟨_, rfl⟩
                  have hb3 : Below wr.heap.size wr w3 := by rw [hW3]; exact below_regrown _ _ _
                  rw [← hW3]
                  clear hW3
                  obtain ⟨hc3, hf3⟩ := bcell hb3
                  have hy3 := hb3.size
                  have HO5 := Lib.hid (HO.out.next hb3)
                  have HR := Lib.hid (OutNt.retL HO5.out (Below.refl _ _) 0 HX2.out)
                  go_wp2
                  go_ret2
                  exact HR.out
                · have HNQ : Hid (∀ ys, validNt ys = true → endB (bookB ys) = s → False) := fun ys h1 h2 => by
                    have h3 := (HU.out ys h1 h2).1
                    rw [h3] at hes
                    exact hes h2
                  have HNO : Hid (∀ ys, validNt ys = true → endB (bookB ys) = s → False) := fun ys h1 h2 => HNQ.out ys h1 h2
                  obtain ⟨e1, e2⟩ := HE.out.2 HNO.out
                  subst e1 e2
                  generalize endB (bookB xs) = E at *
                  have hst : (E.toList == s.toList) = false := by
                    rw [beq_eq_false_iff_ne]
                    intro h
                    exact hes (toList_injU h)
                  clear HU HO HF HRD hv hes
                  go_wp2_with fail
                  refine wp_region_quiet_below (by kernel_rfl) (by kernel_rfl) ?_
                  repeat (first | go_big_quiet_step ((first | (with_reducible exact Calls.regrown_of (HOK.out _ (below_regrown _ _ _))) | (with_reducible exact Calls.regrown_of (HPK.out _ (below_regrown _ _ _))))) | quiet_step ((first | (with_reducible exact Calls.regrown_of (HOK.out _ (below_regrown _ _ _))) | (with_reducible exact Calls.regrown_of (HPK.out _ (below_regrown _ _ _))))))
                  refine wpQuiet_nil ?_
                  intro _ hw'
                  obtain ⟨⟨dq, oq⟩, hw''⟩ := hw'
                  subst hw''
                  obtain ⟨w3, hW3⟩ : ∃ Wq, Wq = grow (redrawn wr dq) oq := ⟨_, rfl⟩
                  have hb3 : Below wr.heap.size wr w3 := by rw [hW3]; exact below_regrown _ _ _
                  rw [← hW3]
                  clear hW3
                  obtain ⟨hc3, hf3⟩ := bcell hb3
                  have hy3 := hb3.size
                  have HR := Lib.hid (RetNtL.nil_ (w := w) 8 (ext_trans HBL.out hb3))
                  go_wp2
                  go_ret2
                  exact HR.out
            · have p1 : ((p : Int) != (S.size : Int)) = true := by simp; omega
              have HNQ : Hid (∀ ys, validNt ys = true → endB (bookB ys) = s → False) := fun ys h1 h2 => by
                have h3 := (HU.out ys h1 h2).2.2
                have h4 := congrArg List.length HR0.out
                rw [h3, List.length_drop, byI_length] at h4
                simp at h4
                omega
              have HNO : Hid (∀ ys, validNt ys = true → endB (bookB ys) = s → False) := fun ys h1 h2 => HNQ.out ys h1 h2
              obtain ⟨e1, e2⟩ := HE.out.2 HNO.out
              subst e1 e2
              clear HU HO HF
              go_wp2_with fail
              refine wp_region_quiet_below (by kernel_rfl) (by kernel_rfl) ?_
              repeat (first | go_big_quiet_step (fail) | quiet_step (fail))
              refine wpQuiet_nil ?_
              intro _ hw'
              obtain ⟨⟨dq, oq⟩, hw''⟩ := hw'
              subst hw''
              obtain ⟨w3, hW3⟩ : ∃ Wq, Wq = grow (redrawn wr dq) oq := ⟨_, rfl⟩
              have hb3 : Below wr.heap.size wr w3 := by rw [hW3]; exact below_regrown _ _ _
              rw [← hW3]
              clear hW3
              obtain ⟨hc3, hf3⟩ := bcell hb3
              have hy3 := hb3.size
              have HR := Lib.hid (RetNtL.nil_ (w := w) 8 (ext_trans HBL.out hb3))
              go_wp2
              go_ret2
              exact HR.out
    · have HNQ : Hid (∀ ys, validNt ys = true → endB (bookB ys) = s → False) := fun ys h1 h2 => by
        obtain ⟨_, _, r1, r2⟩ := HHD.out ys h1 h2
        exact hgo ⟨r1, r2⟩
      have HNO : Hid (∀ ys, validNt ys = true → endB (bookB ys) = s → False) := fun ys h1 h2 => HNQ.out ys h1 h2
      obtain ⟨e1, e2⟩ := HE.out.2 HNO.out
      subst e1 e2
      clear HHD
      by_cases c0 : b0 = 78
      · have c3 : (A != 256 * (bm : Int) + (bn : Int)) = true := by
          simp only [bne_iff_ne, ne_eq]
          exact fun h => hgo ⟨c0, h⟩
        have c2 : ((b0 : Int) != 78) = false := by simp; omega
        clear c0 hgo
        go_enter Tryz.func23, Tryz.ntmps23
        go_wp2_with fail
        refine wp_region_quiet_below (by kernel_rfl) (by kernel_rfl) ?_
        repeat (first | go_big_quiet_step ((with_reducible exact regrown_same (HSUM.out _))) | quiet_step ((with_reducible exact regrown_same (HSUM.out _))))
        refine wpQuiet_nil ?_
        intro _ hw'
        obtain ⟨⟨dq, oq⟩, hw''⟩ := hw'
        subst hw''
        obtain ⟨w1, hW1⟩ : ∃ Wq, Wq = grow (redrawn w dq) oq := ⟨_, rfl⟩
        have hb1 : Below w.heap.size w w1 := by rw [hW1]; exact below_regrown _ _ _
        rw [← hW1]
        clear hW1
        obtain ⟨hc1, hf1⟩ := bcell hb1
        have hy1 := hb1.size
        have HR := Lib.hid (RetNtL.nil_ (w := w) 8 hb1)
        go_wp2
        go_ret2
        exact HR.out
      · have c2 : ((b0 : Int) != 78) = true := by simp; omega
        clear c0 hgo
        go_enter Tryz.func23, Tryz.ntmps23
        go_wp2_with fail
        refine wp_region_quiet_below (by kernel_rfl) (by kernel_rfl) ?_
        repeat (first | go_big_quiet_step (fail) | quiet_step (fail))
        refine wpQuiet_nil ?_
        intro _ hw'
        obtain ⟨⟨dq, oq⟩, hw''⟩ := hw'
        subst hw''
        obtain ⟨w1, hW1⟩ : ∃ Wq, Wq = grow (redrawn w dq) oq := ⟨_, rfl⟩
        have hb1 : Below w.heap.size w w1 := by rw [hW1]; exact below_regrown _ _ _
        rw [← hW1]
        clear hW1
        obtain ⟨hc1, hf1⟩ := bcell hb1
        have hy1 := hb1.size
        have HR := Lib.hid (RetNtL.nil_ (w := w) 8 hb1)
        go_wp2
        go_ret2
        exact HR.out
end Go.Proofs.YtpnabggpdgjbmaaGreatDoor
