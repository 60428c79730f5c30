/- How two notes compare: both walks. No condition but those that each theorem names. -/
import Derived.Test.YtkimmahmbacjpaaCmpNX
import Derived.Test.YtkimmahmbacjpaaMgTn
namespace Go.Proofs.Ytkimmahmbacjpaa
open Go.RowKit Go.Sort

theorem cnR_no1 {x y : Nt} (h : ntOk x = false) : cnR x y = (0, 1) := by simp [cnR, h]
theorem cnR_no2 {x y : Nt} (h : ntOk y = false) : cnR x y = (0, 1) := by simp [cnR, h]
theorem cnR_full {x y : Nt} (h : ntOk x = true) (h' : ntOk y = true) (h0 : ¬ (ntCd x = 0 ∧ ntCd y = 0)) : cnR x y = (0, 5) := by rw [cnR, if_pos (by simp [h, h']), if_neg h0]
theorem cnR_yes {x y : Nt} (h : ntOk x = true) (h' : ntOk y = true) (h0 : ntCd x = 0) (h1 : ntCd y = 0) : cnR x y = cmpF (tmS (ntSo x)) (tmS (ntSo y)) 1000 0 := by rw [cnR, if_pos (by simp [h, h']), if_pos ⟨h0, h1⟩]
/-- Two boxes of notes, one after the other. -/
theorem BoxV.two (w : World) (a b : List Value) (t u : TypeId) : BoxV w.heap.size a ((w.alloc (.cells a.toArray t)).alloc (.cells b.toArray u)) ∧ BoxV (w.heap.size + 1) b ((w.alloc (.cells a.toArray t)).alloc (.cells b.toArray u)) := by
  refine ⟨by have h := (BoxV.new w a.toArray t).alloc (.cells b.toArray u); simpa using h, ?_⟩
  have h := BoxV.new (w.alloc (.cells a.toArray t)) b.toArray u
  rw [show (w.alloc (.cells a.toArray t)).heap.size = w.heap.size + 1 by simp] at h
  simpa using h
theorem ntAt_box {W : World} {b : Nat} {x : Nt} {T : Option Addr} {c : Nat} (h : BoxV b (ntC x T c) W) : NtAt W b 0 x T c := ⟨h.at 0 _ rfl, h.at 1 _ rfl, h.at 2 _ rfl, h.at 3 _ rfl, h.at 4 _ rfl, h.at 5 _ rfl, h.at 6 _ rfl, h.at 7 _ rfl⟩
set_option maxRecDepth 100000 in
set_option maxHeartbeats 4000000 in
theorem sCompareNotes_any (x y : Nt) (T U : Option Addr) (c d : Nat) (w : World) (hx : RdT w w.heap.size T c x.terms) (hy : RdT w w.heap.size U d y.terms) (hf : x.fits) (hg : y.fits) :
    Calls Try.prog 16 #[ntV x.name x.kind x.num x.den T x.terms.length c x.sp x.sd x.sq, ntV y.name y.kind y.num y.den U y.terms.length d y.sp y.sd y.sq] w fun e w' => e = .returned (.tuple #[.int .i64 (cnR x y).1, .int .i64 (cnR x y).2]) ∧ Below w.heap.size w w' := by
  have HOX : Hid (∀ W : World, Below w.heap.size w W → BoxV w.heap.size (ntC x T c) W → Calls Try.prog 40 #[.pointer (some ⟨w.heap.size, 0, none⟩)] W fun e w' => e = .returned (.bool (ntOk x)) ∧ Below W.heap.size W w') := fun W hb h => l27One_any x w.heap.size 0 T c W (hx.next hb) hf (ntAt_box h)
  have HOY : Hid (∀ W : World, Below w.heap.size w W → BoxV (w.heap.size + 1) (ntC y U d) W → Calls Try.prog 40 #[.pointer (some ⟨w.heap.size + 1, 0, none⟩)] W fun e w' => e = .returned (.bool (ntOk y)) ∧ Below W.heap.size W w') := fun W hb h => l27One_any y (w.heap.size + 1) 0 U d W (hy.next hb) hg (ntAt_box h)
  cases hok : ntOk x
  · rw [hok] at HOX
    rw [cnR_no1 hok]
    clear hok hx hy hf hg
    unfold ntV
    go_enter Try.func16, Try.ntmps16
    go_wp2_with fail
    refine (HOX.out _ (ext_alloc (ext1 _ _) _) (BoxV.two _ _ _ _ _).1).mono ?_
    rintro e w1 ⟨rfl, hb1⟩
    have HBX1 : Hid (BoxV w.heap.size (ntC x T c) w1) := (BoxV.two w (ntC x T c) (ntC y U d) _ _).1.next hb1
    have HBY1 : Hid (BoxV (w.heap.size + 1) (ntC y U d) w1) := (BoxV.two w (ntC x T c) (ntC y U d) _ _).2.next hb1
    have HB1 := Lib.hid (ext_trans (ext_alloc (ext1 w (.cells #[.string x.name, .int .i64 x.kind, .int .i64 x.num, .int .i64 x.den, .slice T x.terms.length c, .int .i64 x.sp, .int .i64 x.sd, .int .i64 x.sq] 36)) _) hb1)
    clear hb1
    go_wp2
    go_ret2
    exact ⟨rfl, HB1.out⟩
  · cases hok' : ntOk y
    · rw [hok] at HOX
      rw [hok'] at HOY
      rw [cnR_no2 hok']
      clear hok hok' hx hy hf hg
      unfold ntV
      go_enter Try.func16, Try.ntmps16
      go_wp2_with fail
      refine (HOX.out _ (ext_alloc (ext1 _ _) _) (BoxV.two _ _ _ _ _).1).mono ?_
      rintro e w1 ⟨rfl, hb1⟩
      have HBX1 : Hid (BoxV w.heap.size (ntC x T c) w1) := (BoxV.two w (ntC x T c) (ntC y U d) _ _).1.next hb1
      have HBY1 : Hid (BoxV (w.heap.size + 1) (ntC y U d) w1) := (BoxV.two w (ntC x T c) (ntC y U d) _ _).2.next hb1
      have HB1 := Lib.hid (ext_trans (ext_alloc (ext1 w (.cells #[.string x.name, .int .i64 x.kind, .int .i64 x.num, .int .i64 x.den, .slice T x.terms.length c, .int .i64 x.sp, .int .i64 x.sd, .int .i64 x.sq] 36)) _) hb1)
      clear hb1
      go_wp2_with fail
      refine (HOY.out _ HB1.out HBY1.out).mono ?_
      rintro e w2 ⟨rfl, hb2⟩
      have HBX2 := Lib.hid (HBX1.out.next hb2)
      have HBY2 := Lib.hid (HBY1.out.next hb2)
      have HB2 := Lib.hid (ext_trans HB1.out hb2)
      clear hb2 HBX1 HBY1 HB1
      go_wp2
      go_ret2
      exact ⟨rfl, HB2.out⟩
    · rw [hok] at HOX
      rw [hok'] at HOY
      have HSX : Hid (∀ W : World, Below w.heap.size w W → BoxV w.heap.size (ntC x T c) W → Calls Try.prog 42 #[.pointer (some ⟨w.heap.size, 0, none⟩)] W (RetSr W x)) := fun W hb h => l27Source_any x w.heap.size 0 T c W (hx.next hb) (ntAt_box h) hok
      have HSY : Hid (∀ W : World, Below w.heap.size w W → BoxV (w.heap.size + 1) (ntC y U d) W → Calls Try.prog 42 #[.pointer (some ⟨w.heap.size + 1, 0, none⟩)] W (RetSr W y)) := fun W hb h => l27Source_any y (w.heap.size + 1) 0 U d W (hy.next hb) (ntAt_box h) hok'
      unfold RetSr at HSX HSY
      have HTX := Lib.hid (fun h0 => (⟨ntSo_tmB hok h0, ntSo_hd hok h0, plS_nt hok h0⟩ : TmB (ntSo x) ∧ ((ntSo x).hd.length ≤ 1000 ∧ ∀ y ∈ (ntSo x).hd, -2000000000 ≤ y ∧ y ≤ 2000000000) ∧ plS (ntSo x) = ntSo x))
      have HTY := Lib.hid (fun h0 => (⟨ntSo_tmB hok' h0, ntSo_hd hok' h0, plS_nt hok' h0⟩ : TmB (ntSo y) ∧ ((ntSo y).hd.length ≤ 1000 ∧ ∀ z ∈ (ntSo y).hd, -2000000000 ≤ z ∧ z ≤ 2000000000) ∧ plS (ntSo y) = ntSo y))
      by_cases h0 : ntCd x = 0
      · by_cases h1 : ntCd y = 0
        · rw [cnR_yes hok hok' h0 h1]
          obtain ⟨t1, ⟨t2, t3⟩, t4⟩ := HTX.out h0
          obtain ⟨u1, ⟨u2, u3⟩, u4⟩ := HTY.out h1
          have HLC : Hid (∀ (gx gy : Nat) (H P G H' P' G' : Option Addr) (ch cp cg ch' cp' cg' : Nat) (W : World), RdSo W W.heap.size H P G (ntSo x) → SoAt W gx H P G ch cp cg (ntSo x) → RdSo W W.heap.size H' P' G' (ntSo y) → SoAt W gy H' P' G' ch' cp' cg' (ntSo y) → Calls Try.prog 46 #[.pointer (some ⟨gx, 0, none⟩), .pointer (some ⟨gy, 0, none⟩), .int .i64 1000] W fun e w' => e = .returned (.tuple #[.int .i64 (cmpF (tmS (ntSo x)) (tmS (ntSo y)) 1000 0).1, .int .i64 (cmpF (tmS (ntSo x)) (tmS (ntSo y)) 1000 0).2]) ∧ Below W.heap.size W w') := fun gx gy H P G H' P' G' ch cp cg ch' cp' cg' W a1 a2 a3 a4 => l17Compare_any (ntSo x) (ntSo y) gx gy H P G H' P' G' ch cp cg ch' cp' cg' W a1 a2 t1 t2 t3 t4 a3 a4 u1 u2 u3 u4
          rw [h0] at HSX
          rw [h1] at HSY
          clear hok hok' hx hy hf hg t1 t2 t3 t4 u1 u2 u3 u4 HTX HTY h0 h1
          generalize cmpF (tmS (ntSo x)) (tmS (ntSo y)) 1000 0 = R at *
          generalize ntSo x = so at *
          generalize ntSo y = so' at *
          unfold ntV
          go_enter Try.func16, Try.ntmps16
          go_wp2_with fail
          refine (HOX.out _ (ext_alloc (ext1 _ _) _) (BoxV.two _ _ _ _ _).1).mono ?_
          rintro e w1 ⟨rfl, hb1⟩
          have HBX1 : Hid (BoxV w.heap.size (ntC x T c) w1) := (BoxV.two w (ntC x T c) (ntC y U d) _ _).1.next hb1
          have HBY1 : Hid (BoxV (w.heap.size + 1) (ntC y U d) w1) := (BoxV.two w (ntC x T c) (ntC y U d) _ _).2.next hb1
          have HB1 := Lib.hid (ext_trans (ext_alloc (ext1 w (.cells #[.string x.name, .int .i64 x.kind, .int .i64 x.num, .int .i64 x.den, .slice T x.terms.length c, .int .i64 x.sp, .int .i64 x.sd, .int .i64 x.sq] 36)) _) hb1)
          clear hb1
          go_wp2_with fail
          refine (HOY.out _ HB1.out HBY1.out).mono ?_
          rintro e w2 ⟨rfl, hb2⟩
          have HBX2 := Lib.hid (HBX1.out.next hb2)
          have HBY2 := Lib.hid (HBY1.out.next hb2)
          have HB2 := Lib.hid (ext_trans HB1.out hb2)
          clear hb2 HBX1 HBY1 HB1
          go_wp2_with fail
          refine (HSX.out _ HB2.out HBX2.out).mono ?_
          rintro e w3 ⟨H, a, ca, P, b, cb, G, c', cc, rfl, hs3, hb3⟩
          obtain ⟨rfl, rfl, rfl, hrd⟩ := hs3 (by trivial)
          have HRX := Lib.hid (hrd.next (ext1 w3 (.cells #[.slice H so.hd.length ca, .slice P so.pd.length cb, .slice G so.gr.length cc] 72)))
          have HBY3 := Lib.hid ((HBY2.out.next hb3).alloc (.cells #[.slice H so.hd.length ca, .slice P so.pd.length cb, .slice G so.gr.length cc] 72))
          have HB3 := Lib.hid (ext_alloc (ext_trans HB2.out hb3) (.cells #[.slice H so.hd.length ca, .slice P so.pd.length cb, .slice G so.gr.length cc] 72))
          have HGX := Lib.hid (BoxV.new w3 #[.slice H so.hd.length ca, .slice P so.pd.length cb, .slice G so.gr.length cc] 72)
          clear hb3 hrd hs3 HBX2 HBY2 HB2
          go_wp2_with fail
          refine (HSY.out _ HB3.out HBY3.out).mono ?_
          rintro e w4 ⟨H', a', ca', P', b', cb', G', c'', cc', rfl, hs4, hb4⟩
          obtain ⟨rfl, rfl, rfl, hrd'⟩ := hs4 (by trivial)
          have HRX := Lib.hid ((HRX.out.next hb4).next (ext1 w4 (.cells #[.slice H' so'.hd.length ca', .slice P' so'.pd.length cb', .slice G' so'.gr.length cc'] 72)))
          have HRY := Lib.hid (hrd'.next (ext1 w4 (.cells #[.slice H' so'.hd.length ca', .slice P' so'.pd.length cb', .slice G' so'.gr.length cc'] 72)))
          have HB4 := Lib.hid (ext_alloc (ext_trans HB3.out hb4) (.cells #[.slice H' so'.hd.length ca', .slice P' so'.pd.length cb', .slice G' so'.gr.length cc'] 72))
          have HGX := Lib.hid ((HGX.out.next hb4).alloc (.cells #[.slice H' so'.hd.length ca', .slice P' so'.pd.length cb', .slice G' so'.gr.length cc'] 72))
          have HGY := Lib.hid (BoxV.new w4 #[.slice H' so'.hd.length ca', .slice P' so'.pd.length cb', .slice G' so'.gr.length cc'] 72)
          clear hb4 hrd' hs4 HB3 HBY3
          go_wp2_with fail
          refine (HLC.out _ _ H P G H' P' G' ca cb cc ca' cb' cc' _ HRX.out (SoAt.of_box HGX.out) HRY.out (SoAt.of_box HGY.out)).mono ?_
          rintro e w5 ⟨rfl, hb5⟩
          go_wp2
          go_ret2
          exact ⟨rfl, ext_trans HB4.out hb5⟩
        · rw [cnR_full hok hok' (fun h => h1 h.2)]
          have h15 : ntCd y = 5 := (ntCd_two hok').resolve_left h1
          rw [h0] at HSX
          rw [h15] at HSY
          clear hok hok' hx hy hf hg HTX HTY h0 h1 h15
          generalize ntSo x = so at *
          generalize ntSo y = so' at *
          unfold ntV
          go_enter Try.func16, Try.ntmps16
          go_wp2_with fail
          refine (HOX.out _ (ext_alloc (ext1 _ _) _) (BoxV.two _ _ _ _ _).1).mono ?_
          rintro e w1 ⟨rfl, hb1⟩
          have HBX1 : Hid (BoxV w.heap.size (ntC x T c) w1) := (BoxV.two w (ntC x T c) (ntC y U d) _ _).1.next hb1
          have HBY1 : Hid (BoxV (w.heap.size + 1) (ntC y U d) w1) := (BoxV.two w (ntC x T c) (ntC y U d) _ _).2.next hb1
          have HB1 := Lib.hid (ext_trans (ext_alloc (ext1 w (.cells #[.string x.name, .int .i64 x.kind, .int .i64 x.num, .int .i64 x.den, .slice T x.terms.length c, .int .i64 x.sp, .int .i64 x.sd, .int .i64 x.sq] 36)) _) hb1)
          clear hb1
          go_wp2_with fail
          refine (HOY.out _ HB1.out HBY1.out).mono ?_
          rintro e w2 ⟨rfl, hb2⟩
          have HBX2 := Lib.hid (HBX1.out.next hb2)
          have HBY2 := Lib.hid (HBY1.out.next hb2)
          have HB2 := Lib.hid (ext_trans HB1.out hb2)
          clear hb2 HBX1 HBY1 HB1
          go_wp2_with fail
          refine (HSX.out _ HB2.out HBX2.out).mono ?_
          rintro e w3 ⟨H, a, ca, P, b, cb, G, c', cc, rfl, hs3, hb3⟩
          have HBY3 := Lib.hid ((HBY2.out.next hb3).alloc (.cells #[.slice H a ca, .slice P b cb, .slice G c' cc] 72))
          have HB3 := Lib.hid (ext_alloc (ext_trans HB2.out hb3) (.cells #[.slice H a ca, .slice P b cb, .slice G c' cc] 72))
          clear hb3 hs3 HBX2 HBY2 HB2
          go_wp2_with fail
          refine (HSY.out _ HB3.out HBY3.out).mono ?_
          rintro e w4 ⟨H', a', ca', P', b', cb', G', c'', cc', rfl, hs4, hb4⟩
          clear hs4
          go_wp2
          go_ret2
          exact ⟨rfl, ext_alloc (ext_trans HB3.out hb4) _⟩
      · rw [cnR_full hok hok' (fun h => h0 h.1)]
        have h05 : ntCd x = 5 := (ntCd_two hok).resolve_left h0
        rw [h05] at HSX
        clear hok hok' hx hy hf hg HTX HTY h0 h05 HSY
        generalize ntSo x = so at *
        unfold ntV
        go_enter Try.func16, Try.ntmps16
        go_wp2_with fail
        refine (HOX.out _ (ext_alloc (ext1 _ _) _) (BoxV.two _ _ _ _ _).1).mono ?_
        rintro e w1 ⟨rfl, hb1⟩
        have HBX1 : Hid (BoxV w.heap.size (ntC x T c) w1) := (BoxV.two w (ntC x T c) (ntC y U d) _ _).1.next hb1
        have HBY1 : Hid (BoxV (w.heap.size + 1) (ntC y U d) w1) := (BoxV.two w (ntC x T c) (ntC y U d) _ _).2.next hb1
        have HB1 := Lib.hid (ext_trans (ext_alloc (ext1 w (.cells #[.string x.name, .int .i64 x.kind, .int .i64 x.num, .int .i64 x.den, .slice T x.terms.length c, .int .i64 x.sp, .int .i64 x.sd, .int .i64 x.sq] 36)) _) hb1)
        clear hb1
        go_wp2_with fail
        refine (HOY.out _ HB1.out HBY1.out).mono ?_
        rintro e w2 ⟨rfl, hb2⟩
        have HBX2 := Lib.hid (HBX1.out.next hb2)
        have HBY2 := Lib.hid (HBY1.out.next hb2)
        have HB2 := Lib.hid (ext_trans HB1.out hb2)
        clear hb2 HBX1 HBY1 HB1
        go_wp2_with fail
        refine (HSX.out _ HB2.out HBX2.out).mono ?_
        rintro e w3 ⟨H, a, ca, P, b, cb, G, c', cc, rfl, hs3, hb3⟩
        clear hs3
        go_wp2
        go_ret2
        exact ⟨rfl, ext_alloc (ext_trans HB2.out hb3) _⟩
set_option maxRecDepth 100000 in
set_option maxHeartbeats 4000000 in
theorem iCompareNotes_any (x y : Nt) (T U : Option Addr) (c d : Nat) (w : World) (hx : RdT w w.heap.size T c x.terms) (hy : RdT w w.heap.size U d y.terms) (hf : x.fits) (hg : y.fits) :
    Calls Try.prog 15 #[ntV x.name x.kind x.num x.den T x.terms.length c x.sp x.sd x.sq, ntV y.name y.kind y.num y.den U y.terms.length d y.sp y.sd y.sq] w fun e w' => e = .returned (.tuple #[.int .i64 (cnR x y).1, .int .i64 (cnR x y).2]) ∧ Below w.heap.size w w' := by
  have HOX : Hid (∀ W : World, Below w.heap.size w W → Calls Try.prog 36 #[ntV x.name x.kind x.num x.den T x.terms.length c x.sp x.sd x.sq] W fun e w' => e = .returned (.bool (ntOk x)) ∧ Below W.heap.size W w') := fun W hb => isNote_any x T c W (hx.next hb) hf
  have HOY : Hid (∀ W : World, Below w.heap.size w W → Calls Try.prog 36 #[ntV y.name y.kind y.num y.den U y.terms.length d y.sp y.sd y.sq] W fun e w' => e = .returned (.bool (ntOk y)) ∧ Below W.heap.size W w') := fun W hb => isNote_any y U d W (hy.next hb) hg
  cases hok : ntOk x
  · rw [hok] at HOX
    rw [cnR_no1 hok]
    clear hok hx hy hf hg
    unfold ntV at *
    go_enter Try.func15, Try.ntmps15
    go_wp2_with fail
    refine (HOX.out _ (ext_alloc (ext1 _ _) _)).mono ?_
    rintro e w1 ⟨rfl, hb1⟩
    have HBX : Hid (BoxV w.heap.size (ntC x T c) w1) := (BoxV.two w (ntC x T c) (ntC y U d) _ _).1.next hb1
    have HBY : Hid (BoxV (w.heap.size + 1) (ntC y U d) w1) := (BoxV.two w (ntC x T c) (ntC y U d) _ _).2.next hb1
    have HB := Lib.hid (ext_trans (ext_alloc (ext1 w (.cells #[.string x.name, .int .i64 x.kind, .int .i64 x.num, .int .i64 x.den, .slice T x.terms.length c, .int .i64 x.sp, .int .i64 x.sd, .int .i64 x.sq] 36)) _) hb1)
    clear hb1
    go_wp2
    go_ret2
    exact ⟨rfl, HB.out⟩
  · cases hok' : ntOk y
    · rw [hok] at HOX
      rw [hok'] at HOY
      rw [cnR_no2 hok']
      clear hok hok' hx hy hf hg
      unfold ntV at *
      go_enter Try.func15, Try.ntmps15
      go_wp2_with fail
      refine (HOX.out _ (ext_alloc (ext1 _ _) _)).mono ?_
      rintro e w1 ⟨rfl, hb1⟩
      have HBX : Hid (BoxV w.heap.size (ntC x T c) w1) := (BoxV.two w (ntC x T c) (ntC y U d) _ _).1.next hb1
      have HBY : Hid (BoxV (w.heap.size + 1) (ntC y U d) w1) := (BoxV.two w (ntC x T c) (ntC y U d) _ _).2.next hb1
      have HB := Lib.hid (ext_trans (ext_alloc (ext1 w (.cells #[.string x.name, .int .i64 x.kind, .int .i64 x.num, .int .i64 x.den, .slice T x.terms.length c, .int .i64 x.sp, .int .i64 x.sd, .int .i64 x.sq] 36)) _) hb1)
      clear hb1
      have y0 := HBY.out.at 0 _ rfl
      have y1 := HBY.out.at 1 _ rfl
      have y2 := HBY.out.at 2 _ rfl
      have y3 := HBY.out.at 3 _ rfl
      have y4 := HBY.out.at 4 _ rfl
      have y5 := HBY.out.at 5 _ rfl
      have y6 := HBY.out.at 6 _ rfl
      have y7 := HBY.out.at 7 _ rfl
      go_wp2_with fail
      refine (HOY.out _ HB.out).mono ?_
      rintro e w2 ⟨rfl, hb2⟩
      have HBX := Lib.hid (HBX.out.next hb2)
      have HBY := Lib.hid (HBY.out.next hb2)
      have HB := Lib.hid (ext_trans HB.out hb2)
      clear hb2 y0 y1 y2 y3 y4 y5 y6 y7
      go_wp2
      go_ret2
      exact ⟨rfl, HB.out⟩
    · rw [hok] at HOX
      rw [hok'] at HOY
      have HSX : Hid (∀ W : World, Below w.heap.size w W → Calls Try.prog 38 #[ntV x.name x.kind x.num x.den T x.terms.length c x.sp x.sd x.sq] W (RetSh W x)) := fun W hb => iTermsOf_any x T c W (hx.next hb) hok
      have HSY : Hid (∀ W : World, Below w.heap.size w W → Calls Try.prog 38 #[ntV y.name y.kind y.num y.den U y.terms.length d y.sp y.sd y.sq] W (RetSh W y)) := fun W hb => iTermsOf_any y U d W (hy.next hb) hok'
      unfold RetSh at HSX HSY
      have HT1 := Lib.hid (ntCd_two hok)
      have HT2 := Lib.hid (ntCd_two hok')
      have HR0 := Lib.hid (cnR_full hok hok')
      have HR1 := Lib.hid (cnR_yes hok hok')
      clear hok hok' hx hy hf hg
      generalize cnR x y = R at *
      generalize tmS (ntSo x) = f at *
      generalize tmS (ntSo y) = g at *
      unfold ntV at *
      go_enter Try.func15, Try.ntmps15
      go_wp2_with fail
      refine (HOX.out _ (ext_alloc (ext1 _ _) _)).mono ?_
      rintro e w1 ⟨rfl, hb1⟩
      have HBX : Hid (BoxV w.heap.size (ntC x T c) w1) := (BoxV.two w (ntC x T c) (ntC y U d) _ _).1.next hb1
      have HBY : Hid (BoxV (w.heap.size + 1) (ntC y U d) w1) := (BoxV.two w (ntC x T c) (ntC y U d) _ _).2.next hb1
      have HB := Lib.hid (ext_trans (ext_alloc (ext1 w (.cells #[.string x.name, .int .i64 x.kind, .int .i64 x.num, .int .i64 x.den, .slice T x.terms.length c, .int .i64 x.sp, .int .i64 x.sd, .int .i64 x.sq] 36)) _) hb1)
      clear hb1
      have y0 := HBY.out.at 0 _ rfl
      have y1 := HBY.out.at 1 _ rfl
      have y2 := HBY.out.at 2 _ rfl
      have y3 := HBY.out.at 3 _ rfl
      have y4 := HBY.out.at 4 _ rfl
      have y5 := HBY.out.at 5 _ rfl
      have y6 := HBY.out.at 6 _ rfl
      have y7 := HBY.out.at 7 _ rfl
      go_wp2_with fail
      refine (HOY.out _ HB.out).mono ?_
      rintro e w2 ⟨rfl, hb2⟩
      have HBX := Lib.hid (HBX.out.next hb2)
      have HBY := Lib.hid (HBY.out.next hb2)
      have HB := Lib.hid (ext_trans HB.out hb2)
      clear hb2 y0 y1 y2 y3 y4 y5 y6 y7
      have x0 := HBX.out.at 0 _ rfl
      have x1 := HBX.out.at 1 _ rfl
      have x2 := HBX.out.at 2 _ rfl
      have x3 := HBX.out.at 3 _ rfl
      have x4 := HBX.out.at 4 _ rfl
      have x5 := HBX.out.at 5 _ rfl
      have x6 := HBX.out.at 6 _ rfl
      have x7 := HBX.out.at 7 _ rfl
      go_wp2_with fail
      refine (HSX.out _ HB.out).mono ?_
      rintro e w3 ⟨H, a, ca, P, b, cb, G, c', cc, L, nl, cl, fin, rfl, hs3, hb3⟩
      have HGX := Lib.hid (BoxV.new w3 #[.slice H a ca, .slice P b cb, .slice G c' cc, .slice L nl cl, .bool fin] 74)
      have HBY := Lib.hid ((HBY.out.next hb3).alloc (.cells #[.slice H a ca, .slice P b cb, .slice G c' cc, .slice L nl cl, .bool fin] 74))
      have HB := Lib.hid (ext_alloc (ext_trans HB.out hb3) (.cells #[.slice H a ca, .slice P b cb, .slice G c' cc, .slice L nl cl, .bool fin] 74))
      have HS3 : Hid (ntCd x = 0 → ShOk (w3.alloc (.cells #[.slice H a ca, .slice P b cb, .slice G c' cc, .slice L nl cl, .bool fin] 74)) (w3.alloc (.cells #[.slice H a ca, .slice P b cb, .slice G c' cc, .slice L nl cl, .bool fin] 74)).heap.size H a P b G c' L nl fin f) := fun h => (hs3 h).next (ext1 _ _)
      clear hb3 hs3 x0 x1 x2 x3 x4 x5 x6 x7
      have y0 := HBY.out.at 0 _ rfl
      have y1 := HBY.out.at 1 _ rfl
      have y2 := HBY.out.at 2 _ rfl
      have y3 := HBY.out.at 3 _ rfl
      have y4 := HBY.out.at 4 _ rfl
      have y5 := HBY.out.at 5 _ rfl
      have y6 := HBY.out.at 6 _ rfl
      have y7 := HBY.out.at 7 _ rfl
      go_wp2_with fail
      refine (HSY.out _ HB.out).mono ?_
      rintro e w4 ⟨H', a', ca', P', b', cb', G', c'', cc', L', nl', cl', fin', rfl, hs4, hb4⟩
      clear y0 y1 y2 y3 y4 y5 y6 y7
      by_cases h0 : ntCd x = 0
      · by_cases h1 : ntCd y = 0
        · have HRR := Lib.hid (HR1.out h0 h1)
          have HS4 : Hid (ShOk (w4.alloc (.cells #[.slice H' a' ca', .slice P' b' cb', .slice G' c'' cc', .slice L' nl' cl', .bool fin'] 74)) (w4.alloc (.cells #[.slice H' a' ca', .slice P' b' cb', .slice G' c'' cc', .slice L' nl' cl', .bool fin'] 74)).heap.size H' a' P' b' G' c'' L' nl' fin' g) := (hs4 h1).next (ext1 _ _)
          have HS3 := Lib.hid (((HS3.out h0).next hb4).next (ext1 w4 (.cells #[.slice H' a' ca', .slice P' b' cb', .slice G' c'' cc', .slice L' nl' cl', .bool fin'] 74)))
          have HGX := Lib.hid ((HGX.out.next hb4).alloc (.cells #[.slice H' a' ca', .slice P' b' cb', .slice G' c'' cc', .slice L' nl' cl', .bool fin'] 74))
          have HB := Lib.hid (ext_alloc (ext_trans HB.out hb4) (.cells #[.slice H' a' ca', .slice P' b' cb', .slice G' c'' cc', .slice L' nl' cl', .bool fin'] 74))
          have z0 := HGX.out.at 0 _ rfl
          have z1 := HGX.out.at 1 _ rfl
          have z2 := HGX.out.at 2 _ rfl
          have z3 := HGX.out.at 3 _ rfl
          have z4 := HGX.out.at 4 _ rfl
          rw [h0, h1]
          clear hb4 hs4 HR0 HR1 HT1 HT2 h0 h1
          go_wp2_with fail
          refine (compareBy_any H a ca P b cb G c' cc L nl cl fin f H' a' ca' P' b' cb' G' c'' cc' L' nl' cl' fin' g _ HS3.out HS4.out).mono ?_
          rintro e w5 ⟨rfl, hb5⟩
          go_wp2
          go_ret2
          rw [HRR.out]
          exact ⟨rfl, ext_trans HB.out hb5⟩
        · have hR := HR0.out (fun h => h1 h.2)
          have h15 := HT2.out.resolve_left h1
          rw [h0, h15]
          have HRR := Lib.hid hR
          have HB := Lib.hid (ext_alloc (ext_trans HB.out hb4) (.cells #[.slice H' a' ca', .slice P' b' cb', .slice G' c'' cc', .slice L' nl' cl', .bool fin'] 74))
          clear hb4 hs4 HR0 HR1 HT1 HT2 h0 h1 h15 hR
          go_wp2
          go_ret2
          rw [HRR.out]
          exact ⟨rfl, HB.out⟩
      · have hR := HR0.out (fun h => h0 h.1)
        have h05 := HT1.out.resolve_left h0
        rw [h05]
        have HRR := Lib.hid hR
        have HB := Lib.hid (ext_alloc (ext_trans HB.out hb4) (.cells #[.slice H' a' ca', .slice P' b' cb', .slice G' c'' cc', .slice L' nl' cl', .bool fin'] 74))
        clear hb4 hs4 HR0 HR1 HT1 HT2 h0 h05 hR
        go_wp2
        go_ret2
        rw [HRR.out]
        exact ⟨rfl, HB.out⟩
end Go.Proofs.Ytkimmahmbacjpaa
