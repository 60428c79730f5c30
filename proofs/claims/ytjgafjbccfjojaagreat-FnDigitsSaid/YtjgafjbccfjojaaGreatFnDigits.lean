/- Law: digits of a source are those of its value, and sure digits are digits of all numbers. No condition. -/
import Derived.Test.YtjgafjbccfjojaaGreatMgAZ
import Derived.Test.YtjgafjbccfjojaaGreatMgAY
import Derived.Deep.DeepCutAuto
namespace Go.Proofs.YtjgafjbccfjojaaGreat.fnDigits
open Go.ChangeShapes Go.WideShapes Go.ChangeAt Go.RowKit Go.Sort
open Go.ChangeMaps (open_string shut_string)
theorem rd_next {α : Type} {enc : α → Value} {W W' : World} {A : Option Addr} {xs : List α} (h : Rd enc W W.heap.size A xs) (hb : Below W.heap.size W W') : Rd enc W' W'.heap.size A xs := (h.below hb).more hb.size
theorem rdc_next {W W' : World} {A : Option Addr} {c : Nat} {xs : List Int} (h : RdC W W.heap.size A c xs) (hb : Below W.heap.size W W') : RdC W' W'.heap.size A c xs := ⟨rd_next h.1 hb, h.2⟩
theorem f6same (A B : Option Addr) (c d : Nat) (xs : List Int) (w : World) (hx : Rd (Value.int .i64) w w.heap.size A xs) (hy : Rd (Value.int .i64) w w.heap.size B xs) (hm : xs.length ≤ 1000000) :
    Calls Tryz.prog 17 #[.slice A xs.length c, .slice B xs.length d] w fun e w' => e = .returned (.bool true) ∧ Below w.heap.size w w' := by
  have h := f6ints_any A B c d xs xs w hx hy (by unfold maxLen; omega) (by unfold maxLen; omega)
  simpa using h
/-- A source in a box. -/
structure Xb (b : Nat) (A1 : Option Addr) (c1 : Nat) (A2 : Option Addr) (c2 : Nat) (A3 : Option Addr) (c3 : Nat) (s : So) (W : World) : Prop where
  x : BoxV b [.slice A1 s.hd.length c1, .slice A2 s.pd.length c2, .slice A3 s.gr.length c3] W
  r : RdSo W W.heap.size A1 A2 A3 s
theorem Xb.next {b : Nat} {A1 : Option Addr} {c1 : Nat} {A2 : Option Addr} {c2 : Nat} {A3 : Option Addr} {c3 : Nat} {s : So} {W W' : World} (h : Xb b A1 c1 A2 c2 A3 c3 s W) (hb : Below W.heap.size W W') : Xb b A1 c1 A2 c2 A3 c3 s W' := ⟨h.x.next hb, h.r.next hb⟩
theorem Xb.start {A1 : Option Addr} {c1 : Nat} {A2 : Option Addr} {c2 : Nat} {A3 : Option Addr} {c3 : Nat} {s : So} {W : World} {B : Nat} (o : Own3 W B (.slice A1 s.hd.length c1) (.slice A2 s.pd.length c2) (.slice A3 s.gr.length c3) s) (T : TypeId) :
    Xb W.heap.size A1 c1 A2 c2 A3 c3 s (W.alloc (.cells #[.slice A1 s.hd.length c1, .slice A2 s.pd.length c2, .slice A3 s.gr.length c3] T)) ∧ (s.hd.length ≤ c1 ∧ c1 ≤ maxLen) :=
  ⟨⟨BoxV.new W #[.slice A1 s.hd.length c1, .slice A2 s.pd.length c2, .slice A3 s.gr.length c3] T, RdSo.next ⟨(own_rd o.o1).2.rd, (own_rd o.o2).2.rd, (own_rd o.o3).2.rd⟩ (ext1 _ _)⟩, own_roomR o.o1⟩
set_option maxRecDepth 100000 in
set_option maxHeartbeats 8000000 in
theorem walkG (A : Option Addr) (n c : Nat) (w : World) (h : Bytes w A n) (hn : n ≤ 4096) :
    Calls Tryz.prog 3 #[.slice A n c] w fun e w' => e = .returned (.bool true) ∧ Below w.heap.size w w' := by
  have By := Lib.hid h
  have HE := Lib.hid (Below.refl w.heap.size w)
  have hf : ¬ 4096 < (n : Int) := by omega
  have hf6 : Hid (∀ W, Calls Tryz.prog 4 #[.slice A n c] W fun e w' => e = .returned (.bool false) ∧ W = w') := fun W => by
    have h := f6big_any A n c W
    rwa [decide_eq_false hf] at h
  clear h hn hf
  go_enter Tryz.func3, Tryz.ntmps3
  go_wp2_with fail
  refine (hf6.out _).mono ?_
  rintro e w' ⟨rfl, rfl⟩
  go_wp2_with fail
  refine (drawDigitsOf_any A n c _ By.out).mono ?_
  rintro e w1 ⟨s, A1, c1, A2, c2, A3, c3, base, count, rfl, ho, hl, hb⟩
  obtain ⟨v, xs, cd, hxl, HI, HS, HC⟩ := digits_law s base count
  have X := Lib.hid (Xb.start ho 26).1
  have HCAP := Lib.hid (Xb.start ho 26).2
  have HE := Lib.hid (ext_trans (ext_trans HE.out hb) (ext1 w1 (.cells #[.slice A1 s.hd.length c1, .slice A2 s.pd.length c2, .slice A3 s.gr.length c3] 26)))
  have By := Lib.hid (By.out.next (ext_trans hb (ext1 w1 (.cells #[.slice A1 s.hd.length c1, .slice A2 s.pd.length c2, .slice A3 s.gr.length c3] 26))))
  have q0 := X.out.x.at 0 _ rfl
  have q1 := X.out.x.at 1 _ rfl
  have q2 := X.out.x.at 2 _ rfl
  clear ho hl hb hf6
  go_wp2_with fail
  generalize w1.alloc (.cells #[.slice A1 s.hd.length c1, .slice A2 s.pd.length c2, .slice A3 s.gr.length c3] 26) = W1 at *
  generalize w1.heap.size = b1 at *
  refine (HI.out _ _ _ _ _ _ _ X.out.r).mono ?_
  rintro e w2 ⟨A4, c4, rfl, hw4, hb⟩
  have D1 := Lib.hid hw4.rd
  have X := Lib.hid (X.out.next hb)
  have HE := Lib.hid (ext_trans HE.out hb)
  have By := Lib.hid (By.out.next hb)
  clear q0 q1 q2 hw4 hb HI
  have q0 := X.out.x.at 0 _ rfl
  have q1 := X.out.x.at 1 _ rfl
  have q2 := X.out.x.at 2 _ rfl
  go_wp2_with fail
  refine (HS.out _ _ _ _ _ _ _ X.out.r).mono ?_
  rintro e w3 ⟨A5, c5, rfl, hw5, hb⟩
  have D2 := Lib.hid hw5.rd
  have D1 := Lib.hid (rd_next D1.out hb)
  have X := Lib.hid (X.out.next hb)
  have HE := Lib.hid (ext_trans HE.out hb)
  have By := Lib.hid (By.out.next hb)
  clear q0 q1 q2 hw5 hb HS
  go_wp2_with fail
  refine (drawTermsForDigits_any A n c _ By.out).mono ?_
  rintro e w4 ⟨s2, P1, d1, P2, d2, P3, d3, base2, count2, rfl, ho, hl, hb⟩
  obtain ⟨tv, tc, HI, HS⟩ := terms_law s2 base2 count2
  have Y := Lib.hid (Xb.start ho 26).1
  have hb := ext_trans hb (ext1 w4 (.cells #[.slice P1 s2.hd.length d1, .slice P2 s2.pd.length d2, .slice P3 s2.gr.length d3] 26))
  have D1 := Lib.hid (rd_next D1.out hb)
  have D2 := Lib.hid (rd_next D2.out hb)
  have X := Lib.hid (X.out.next hb)
  have HE := Lib.hid (ext_trans HE.out hb)
  have By := Lib.hid (By.out.next hb)
  have y0 := Y.out.x.at 0 _ rfl
  have y1 := Y.out.x.at 1 _ rfl
  have y2 := Y.out.x.at 2 _ rfl
  clear ho hl hb
  go_wp2_with fail
  generalize w4.alloc (.cells #[.slice P1 s2.hd.length d1, .slice P2 s2.pd.length d2, .slice P3 s2.gr.length d3] 26) = W4 at *
  generalize w4.heap.size = b4 at *
  refine (HI.out _ _ _ _ _ _ _ Y.out.r).mono ?_
  rintro e w5 ⟨rfl, hb⟩
  have D1 := Lib.hid (rd_next D1.out hb)
  have D2 := Lib.hid (rd_next D2.out hb)
  have X := Lib.hid (X.out.next hb)
  have Y := Lib.hid (Y.out.next hb)
  have HE := Lib.hid (ext_trans HE.out hb)
  have By := Lib.hid (By.out.next hb)
  clear y0 y1 y2 hb HI
  have y0 := Y.out.x.at 0 _ rfl
  have y1 := Y.out.x.at 1 _ rfl
  have y2 := Y.out.x.at 2 _ rfl
  go_wp2_with fail
  refine (HS.out _ _ _ _ _ _ _ Y.out.r).mono ?_
  rintro e w6 ⟨rfl, hb⟩
  have D1 := Lib.hid (rd_next D1.out hb)
  have D2 := Lib.hid (rd_next D2.out hb)
  have X := Lib.hid (X.out.next hb)
  have HE := Lib.hid (ext_trans HE.out hb)
  have By := Lib.hid (By.out.next hb)
  clear y0 y1 y2 hb HS Y
  go_wp2_with fail
  refine (drawDigitsOfFraction_any A n c _ By.out).mono ?_
  rintro e w7 ⟨fa, fb, fbase, fcount, rfl, hb⟩
  obtain ⟨fv, fx, fc, hfl, HI, HS⟩ := fdigits_law fa fb fbase fcount
  have hb := ext_trans hb (ext1 w7 (.cells #[.int .i64 fa, .int .i64 fb] 34))
  have Z := Lib.hid (B2.new w7 fa fb 34)
  have D1 := Lib.hid (rd_next D1.out hb)
  have D2 := Lib.hid (rd_next D2.out hb)
  have X := Lib.hid (X.out.next hb)
  have HE := Lib.hid (ext_trans HE.out hb)
  have By := Lib.hid (By.out.next hb)
  have z0 := Z.out.1
  have z1 := Z.out.2.1
  clear hb
  go_wp2_with fail
  generalize w7.alloc (.cells #[.int .i64 fa, .int .i64 fb] 34) = W7 at *
  generalize w7.heap.size = b7 at *
  refine (HI.out _).mono ?_
  rintro e w8 ⟨A6, c6, rfl, hw6, hb⟩
  have D3 := Lib.hid hw6.rd
  have D1 := Lib.hid (rd_next D1.out hb)
  have D2 := Lib.hid (rd_next D2.out hb)
  have X := Lib.hid (X.out.next hb)
  have Z := Lib.hid (Z.out.next hb)
  have HE := Lib.hid (ext_trans HE.out hb)
  have By := Lib.hid (By.out.next hb)
  clear z0 z1 hb hw6 HI
  have z0 := Z.out.1
  have z1 := Z.out.2.1
  go_wp2_with fail
  refine (HS.out _).mono ?_
  rintro e w9 ⟨A7, c7, rfl, hw7, hb⟩
  have D4 := Lib.hid hw7.rd
  have D3 := Lib.hid (rd_next D3.out hb)
  have D1 := Lib.hid (rd_next D1.out hb)
  have D2 := Lib.hid (rd_next D2.out hb)
  have X := Lib.hid (X.out.next hb)
  have HE := Lib.hid (ext_trans HE.out hb)
  have By := Lib.hid (By.out.next hb)
  clear z0 z1 hb hw7 HS Z
  go_wp2_with fail
  refine (drawSureDigits_any A n c _ By.out).mono ?_
  rintro e w10 ⟨ts, A8, c8, sb, rfl, hT, htl, hb⟩
  obtain ⟨sn, sc, HI, HS, HK⟩ := sure_law ts sb htl
  have D1 := Lib.hid (rd_next D1.out hb)
  have D2 := Lib.hid (rd_next D2.out hb)
  have D3 := Lib.hid (rd_next D3.out hb)
  have D4 := Lib.hid (rd_next D4.out hb)
  have X := Lib.hid (X.out.next hb)
  have HE := Lib.hid (ext_trans HE.out hb)
  have T := Lib.hid hT
  clear hb hT By
  go_wp2_with fail
  refine (HI.out _ _ _ T.out).mono ?_
  rintro e w11 ⟨rfl, hb⟩
  have D1 := Lib.hid (rd_next D1.out hb)
  have D2 := Lib.hid (rd_next D2.out hb)
  have D3 := Lib.hid (rd_next D3.out hb)
  have D4 := Lib.hid (rd_next D4.out hb)
  have X := Lib.hid (X.out.next hb)
  have HE := Lib.hid (ext_trans HE.out hb)
  have T := Lib.hid (rdc_next T.out hb)
  clear hb HI
  go_wp2_with fail
  refine (HS.out _ _ _ T.out).mono ?_
  rintro e w12 ⟨rfl, hb⟩
  have D1 := Lib.hid (rd_next D1.out hb)
  have D2 := Lib.hid (rd_next D2.out hb)
  have D3 := Lib.hid (rd_next D3.out hb)
  have D4 := Lib.hid (rd_next D4.out hb)
  have X := Lib.hid (X.out.next hb)
  have HE := Lib.hid (ext_trans HE.out hb)
  have T := Lib.hid (rdc_next T.out hb)
  clear hb HS
  go_wp2_with fail
  refine (f6same A4 A5 c4 c5 xs _ D1.out D2.out (by omega)).mono ?_
  rintro e w13 ⟨rfl, hb⟩
  have D1 := Lib.hid (rd_next D1.out hb)
  have D2 := Lib.hid (rd_next D2.out hb)
  have D3 := Lib.hid (rd_next D3.out hb)
  have D4 := Lib.hid (rd_next D4.out hb)
  have X := Lib.hid (X.out.next hb)
  have HE := Lib.hid (ext_trans HE.out hb)
  have T := Lib.hid (rdc_next T.out hb)
  clear hb
  go_wp2_with fail
  refine (f6same A6 A7 c6 c7 fx _ D3.out D4.out (by omega)).mono ?_
  rintro e w14 ⟨rfl, hb⟩
  have D1 := Lib.hid (rd_next D1.out hb)
  have D2 := Lib.hid (rd_next D2.out hb)
  have D3 := Lib.hid (rd_next D3.out hb)
  have D4 := Lib.hid (rd_next D4.out hb)
  have X := Lib.hid (X.out.next hb)
  have HE := Lib.hid (ext_trans HE.out hb)
  have T := Lib.hid (rdc_next T.out hb)
  clear hb D2 D3 D4
  by_cases hs : sc = 0 ∧ 0 < sn
  · obtain ⟨hs1, hs2⟩ := hs
    obtain ⟨p, q, fa1, fb1, fa2, fb2, u, ds, hdl, HV, HB, H1, H2, H3⟩ := HK.out hs1 hs2
    subst hs1
    clear HK
    go_wp2_with fail
    refine (HV.out _ _ _ T.out).mono ?_
    rintro e w15 ⟨rfl, hb⟩
    have V := Lib.hid (B2.new w15 p q 34)
    have hb := ext_trans hb (ext1 w15 (.cells #[.int .i64 p, .int .i64 q] 34))
    have D1 := Lib.hid (rd_next D1.out hb)
    have X := Lib.hid (X.out.next hb)
    have HE := Lib.hid (ext_trans HE.out hb)
    have T := Lib.hid (rdc_next T.out hb)
    clear hb HV
    go_wp2_with fail
    generalize w15.alloc (.cells #[.int .i64 p, .int .i64 q] 34) = W15 at *
    generalize w15.heap.size = b15 at *
    refine (HB.out _ _ _ T.out).mono ?_
    rintro e w16 ⟨rfl, hb⟩
    have U1 := Lib.hid ((B2.new w16 fa1 fb1 34).next (ext1 _ (.cells #[.int .i64 fa2, .int .i64 fb2] 34)))
    have U2 := Lib.hid (B2.new_at (g := w16.heap.size + 1) (W := w16.alloc (.cells #[.int .i64 fa1, .int .i64 fb1] 34)) fa2 fb2 34 (by simp))
    have hb := ext_trans hb (ext_alloc (ext1 w16 (.cells #[.int .i64 fa1, .int .i64 fb1] 34)) (.cells #[.int .i64 fa2, .int .i64 fb2] 34))
    have D1 := Lib.hid (rd_next D1.out hb)
    have X := Lib.hid (X.out.next hb)
    have V := Lib.hid (V.out.next hb)
    have HE := Lib.hid (ext_trans HE.out hb)
    clear hb HB T
    go_upto_region 20 with fail
    generalize (w16.alloc (.cells #[.int .i64 fa1, .int .i64 fb1] 34)).alloc (.cells #[.int .i64 fa2, .int .i64 fb2] 34) = W16 at *
    generalize w16.heap.size + 1 = b17 at *
    generalize w16.heap.size = b16 at *
    have m0 := U1.out.1
    have m1 := U1.out.2.1
    go_wp2_with fail
    refine (H1.out _).mono ?_
    rintro e w17 ⟨G1, e1, rfl, hw, hb⟩
    have R1 := Lib.hid hw.rd
    have D1 := Lib.hid (rd_next D1.out hb)
    have X := Lib.hid (X.out.next hb)
    have V := Lib.hid (V.out.next hb)
    have U2 := Lib.hid (U2.out.next hb)
    have HE := Lib.hid (ext_trans HE.out hb)
    clear hw hb m0 m1 U1 H1
    have m0 := U2.out.1
    have m1 := U2.out.2.1
    go_wp2_with fail
    refine (H2.out _).mono ?_
    rintro e w18 ⟨G2, e2, rfl, hw, hb⟩
    have R2 := Lib.hid hw.rd
    have R1 := Lib.hid (rd_next R1.out hb)
    have D1 := Lib.hid (rd_next D1.out hb)
    have X := Lib.hid (X.out.next hb)
    have V := Lib.hid (V.out.next hb)
    have HE := Lib.hid (ext_trans HE.out hb)
    clear hw hb m0 m1 U2 H2
    have m0 := V.out.1
    have m1 := V.out.2.1
    go_wp2_with fail
    refine (H3.out _).mono ?_
    rintro e w19 ⟨G3, e3, rfl, hw, hb⟩
    have R3 := Lib.hid hw.rd
    have R2 := Lib.hid (rd_next R2.out hb)
    have R1 := Lib.hid (rd_next R1.out hb)
    have D1 := Lib.hid (rd_next D1.out hb)
    have X := Lib.hid (X.out.next hb)
    have HE := Lib.hid (ext_trans HE.out hb)
    clear hw hb m0 m1 V H3
    go_wp2_with fail
    refine (f6same G1 G2 e1 e2 ds _ R1.out R2.out (by omega)).mono ?_
    rintro e w20 ⟨rfl, hb⟩
    have R3 := Lib.hid (rd_next R3.out hb)
    have R1 := Lib.hid (rd_next R1.out hb)
    have D1 := Lib.hid (rd_next D1.out hb)
    have X := Lib.hid (X.out.next hb)
    have HE := Lib.hid (ext_trans HE.out hb)
    clear hb R2
    go_wp2_with fail
    refine (f6same G1 G3 e1 e3 ds _ R1.out R3.out (by omega)).mono ?_
    rintro e w21 ⟨rfl, hb⟩
    have D1 := Lib.hid (rd_next D1.out hb)
    have X := Lib.hid (X.out.next hb)
    have HE := Lib.hid (ext_trans HE.out hb)
    clear hb R1 R3
    by_cases hc : cd = 0
    · obtain ⟨k1, k2, k3, k4⟩ := HC.out hc
      have HFL := Lib.hid (fun W => fun hb => FloorOfSource_any s A1 A2 A3 c1 c2 c3 W hb k1 HCAP.out)
      rw [← k2] at HFL
      have HX4 := Lib.hid k4
      have hne : (cd != 0) = false := by simpa using hc
      have K3 := Lib.hid k3
      have hcl : ((xs.length : Int) != count) = false := by simpa using k3
      clear HC hc k1 k2 k3 k4
      have q0 := X.out.x.at 0 _ rfl
      have q1 := X.out.x.at 1 _ rfl
      have q2 := X.out.x.at 2 _ rfl
      go_wp2_with fail
      refine (HFL.out _ X.out.r).mono ?_
      rintro e wf ⟨rfl, hb⟩
      have D1 := Lib.hid (rd_next D1.out hb)
      have HE := Lib.hid (ext_trans HE.out hb)
      clear hb q0 q1 q2 X HFL
      go_wp2_with fail
      go_loopw [50] (fun t wr => ∃ k : Nat, k ≤ xs.length ∧ t = .int .i64 k ∧ Hid (Rd (Value.int .i64) wr wr.heap.size A4 xs) ∧ Hid (Below w.heap.size w wr)) (fun t _ => xs.length - (intOf t).toNat)
      case atStart => exact ⟨0, by omega, rfl, D1.out, HE.out⟩
      case round =>
        obtain ⟨k, hk, rfl, DD, EE⟩ := hrel
        clear D1 HE
        by_cases hlt : k < xs.length
        · obtain ⟨b, off, rfl, hbb, hcx⟩ := DD.out (by omega)
          have cx := hcx k _ (List.getElem?_eq_getElem hlt)
          obtain ⟨g1, g2⟩ := HX4.out _ (List.getElem_mem hlt)
          generalize xs[k] = t at *
          have i0 : (0 : Int) ≤ (k : Int) := by omega
          have i1 : (k : Int) < (xs.length : Int) := by omega
          have t1 : decide (t < 0) = false := by simp; omega
          have t2 : decide (base ≤ t) = false := by simp; omega
          clear hcx
          go_wp2
          go_roundw
          case rel => exact ⟨k + 1, by omega, by go_num, DD.out, EE.out⟩
          case measure => simp [intOf]; omega
        · have i1 : ¬ (k : Int) < (xs.length : Int) := by omega
          go_wp2
          go_ret
          exact ⟨rfl, EE.out⟩
    · have hne : (cd != 0) = true := by simpa using hc
      clear HC hc X D1
      go_wp2
      go_ret
      exact ⟨rfl, HE.out⟩
  · clear HK T
    by_cases hs1 : sc = 0
    · have hs2 : decide (0 < sn) = false := by simp; omega
      have hs3 : (sc == 0) = true := by simpa using hs1
      clear hs hs1
      by_cases hc : cd = 0
      · obtain ⟨k1, k2, k3, k4⟩ := HC.out hc
        have HFL := Lib.hid (fun W => fun hb => FloorOfSource_any s A1 A2 A3 c1 c2 c3 W hb k1 HCAP.out)
        rw [← k2] at HFL
        have HX4 := Lib.hid k4
        have hne : (cd != 0) = false := by simpa using hc
        have K3 := Lib.hid k3
        have hcl : ((xs.length : Int) != count) = false := by simpa using k3
        clear HC hc k1 k2 k3 k4
        have q0 := X.out.x.at 0 _ rfl
        have q1 := X.out.x.at 1 _ rfl
        have q2 := X.out.x.at 2 _ rfl
        go_wp2_with fail
        refine (HFL.out _ X.out.r).mono ?_
        rintro e wf ⟨rfl, hb⟩
        have D1 := Lib.hid (rd_next D1.out hb)
        have HE := Lib.hid (ext_trans HE.out hb)
        clear hb q0 q1 q2 X HFL
        go_wp2_with fail
        go_loopw [50] (fun t wr => ∃ k : Nat, k ≤ xs.length ∧ t = .int .i64 k ∧ Hid (Rd (Value.int .i64) wr wr.heap.size A4 xs) ∧ Hid (Below w.heap.size w wr)) (fun t _ => xs.length - (intOf t).toNat)
        case atStart => exact ⟨0, by omega, rfl, D1.out, HE.out⟩
        case round =>
          obtain ⟨k, hk, rfl, DD, EE⟩ := hrel
          clear D1 HE
          by_cases hlt : k < xs.length
          · obtain ⟨b, off, rfl, hbb, hcx⟩ := DD.out (by omega)
            have cx := hcx k _ (List.getElem?_eq_getElem hlt)
            obtain ⟨g1, g2⟩ := HX4.out _ (List.getElem_mem hlt)
            generalize xs[k] = t at *
            have i0 : (0 : Int) ≤ (k : Int) := by omega
            have i1 : (k : Int) < (xs.length : Int) := by omega
            have t1 : decide (t < 0) = false := by simp; omega
            have t2 : decide (base ≤ t) = false := by simp; omega
            clear hcx
            go_wp2
            go_roundw
            case rel => exact ⟨k + 1, by omega, by go_num, DD.out, EE.out⟩
            case measure => simp [intOf]; omega
          · have i1 : ¬ (k : Int) < (xs.length : Int) := by omega
            go_wp2
            go_ret
            exact ⟨rfl, EE.out⟩
      · have hne : (cd != 0) = true := by simpa using hc
        clear HC hc X D1
        go_wp2
        go_ret
        exact ⟨rfl, HE.out⟩
    · have hs3 : (sc == 0) = false := by simpa using hs1
      clear hs hs1
      by_cases hc : cd = 0
      · obtain ⟨k1, k2, k3, k4⟩ := HC.out hc
        have HFL := Lib.hid (fun W => fun hb => FloorOfSource_any s A1 A2 A3 c1 c2 c3 W hb k1 HCAP.out)
        rw [← k2] at HFL
        have HX4 := Lib.hid k4
        have hne : (cd != 0) = false := by simpa using hc
        have K3 := Lib.hid k3
        have hcl : ((xs.length : Int) != count) = false := by simpa using k3
        clear HC hc k1 k2 k3 k4
        have q0 := X.out.x.at 0 _ rfl
        have q1 := X.out.x.at 1 _ rfl
        have q2 := X.out.x.at 2 _ rfl
        go_wp2_with fail
        refine (HFL.out _ X.out.r).mono ?_
        rintro e wf ⟨rfl, hb⟩
        have D1 := Lib.hid (rd_next D1.out hb)
        have HE := Lib.hid (ext_trans HE.out hb)
        clear hb q0 q1 q2 X HFL
        go_wp2_with fail
        go_loopw [50] (fun t wr => ∃ k : Nat, k ≤ xs.length ∧ t = .int .i64 k ∧ Hid (Rd (Value.int .i64) wr wr.heap.size A4 xs) ∧ Hid (Below w.heap.size w wr)) (fun t _ => xs.length - (intOf t).toNat)
        case atStart => exact ⟨0, by omega, rfl, D1.out, HE.out⟩
        case round =>
          obtain ⟨k, hk, rfl, DD, EE⟩ := hrel
          clear D1 HE
          by_cases hlt : k < xs.length
          · obtain ⟨b, off, rfl, hbb, hcx⟩ := DD.out (by omega)
            have cx := hcx k _ (List.getElem?_eq_getElem hlt)
            obtain ⟨g1, g2⟩ := HX4.out _ (List.getElem_mem hlt)
            generalize xs[k] = t at *
            have i0 : (0 : Int) ≤ (k : Int) := by omega
            have i1 : (k : Int) < (xs.length : Int) := by omega
            have t1 : decide (t < 0) = false := by simp; omega
            have t2 : decide (base ≤ t) = false := by simp; omega
            clear hcx
            go_wp2
            go_roundw
            case rel => exact ⟨k + 1, by omega, by go_num, DD.out, EE.out⟩
            case measure => simp [intOf]; omega
          · have i1 : ¬ (k : Int) < (xs.length : Int) := by omega
            go_wp2
            go_ret
            exact ⟨rfl, EE.out⟩
      · have hne : (cd != 0) = true := by simpa using hc
        clear HC hc X D1
        go_wp2
        go_ret
        exact ⟨rfl, HE.out⟩
set_option maxRecDepth 100000 in
theorem walk (A : Option Addr) (l c : Nat) (z : List Int) (w : World) (hx : IsRow .u8 w A l c z) :
    Calls Tryz.prog 3 #[.slice A l c] w fun e w' => e = .returned (.bool true) ∧ Below w.heap.size w w' := by
  by_cases h : l ≤ 4096
  · exact walkG A l c w (hx.bytes (by omega)) h
  · have hf : 4096 < (l : Int) := by omega
    have hf6 : Hid (∀ W, Calls Tryz.prog 4 #[.slice A l c] W fun e w' => e = .returned (.bool true) ∧ W = w') := fun W => by
      have h := f6big_any A l c W
      rwa [decide_eq_true hf] at h
    clear hx hf h
    go_enter Tryz.func3, Tryz.ntmps3
    go_wp2_with fail
    refine (hf6.out _).mono ?_
    rintro e w' ⟨rfl, rfl⟩
    go_wp2
    go_ret
    exact ⟨rfl, Below.refl _ _⟩
theorem own : ownKnob Tryz.prog.godebug = none := by kernel_rfl
theorem laidOut : laidOutB Tryz.prog = true := by kernel_rfl
set_option linter.unusedVariables false in
set_option maxRecDepth 100000 in
theorem lifted (os : Os) (started : os.Started) (H : Type) (enc : TypeId × Value → H) :
    ReturnsInHanded {} Tryz.checked os 3 .any (Rows.fnDigitsSpec.pre6 enc Tryz.prog Tryz.f3 Rows.fnDigitsRow.domain false) (Rows.fnDigitsSpec.post enc Tryz.prog Tryz.f3 false true false false) := by
  refine returnsInHanded_of_change (C := Tryz.checked) own started (by kernel_rfl) Tryz.func3
    (ChangeSpec.witness6 (enc := enc) (C := Tryz.checked) false ⟨#[], #[.slice none 0 0], []⟩ 8 (by kernel_rfl) (by kernel_rfl) (by kernel_rfl) (by kernel_rfl)) ?_
  intro W base args ds gs before hval0 hW hcnd _
  have hval : ∀ (j : Nat) t v, Tryz.f3.params[j]? = some t → args[j]? = some v → Value.okWide Tryz.prog W .any base t v := hval0
  have hW' := hW
  obtain ⟨p, q, hA0, hV, rfl, hfz, hnd⟩ := hW
  have hA : DataW.TrodAll enc Tryz.prog W 0 (fun _ => true) true Tryz.f3.params.toList args.toList ds p := hA0
  rw [Tryz.params3] at hA hval
  obtain ⟨v0, vs0, d0, ds0, p0, q0, hargs, rfl, rfl, h0, r0⟩ := trodAll_cons hA
  obtain ⟨rfl, rfl, rfl⟩ := trodAll_nil r0
  obtain rfl : args = #[v0] := by cases args; simp_all
  obtain ⟨rfl, rfl⟩ := trodVars_none hV
  have k0 := h0
  have lt0 : ∀ x ∈ p0, x.block < W.heap.size := by obtain ⟨m, hm⟩ := k0; exact DataW.trod_lt m _ _ _ hm
  obtain ⟨A0, l0, c0, rfl⟩ := okWide_slice Tryz.underlying22 (hval 0 22 v0 rfl rfl)
  obtain ⟨z0, w0⟩ : ∃ zs, IsRow .u8 W A0 l0 c0 zs := isRow_arg Tryz.underlying22 Tryz.underlying5 (by kernel_rfl) h0
  clear hA0 hval0
  refine (walk A0 l0 c0 z0 W w0).mono fun e W' ⟨he, bel⟩ => ?_
  subst he
  exact ⟨_, rfl, _, _, _, [], _, [], hW', trodAll_mk1 (shut_bool Tryz.underlying4 _), (trodAll_cons_mk (Below.trod laidOut (by kernel_rfl) (of_decide_eq_true (by kernel_rfl)) k0 bel lt0) trodAll_mk0), rfl, bel.frame _, fun h => by cases h⟩
theorem jPlace : (Rows.fnDigitsRow.inPlace == Tryz.prog.inPlace 3) = true := by kernel_rfl
theorem jFollow : (Rows.fnDigitsRow.unfollowed == Tryz.prog.unfollowed 3) = true := by kernel_rfl
theorem jRecurse : (Rows.fnDigitsRow.recurses == Tryz.prog.recurses 3) = true := by kernel_rfl
theorem jNamed : (Rows.fnDigitsRow.named == Tryz.prog.varsNamed 3) = true := by kernel_rfl
theorem joined : joinedFacts Tryz.prog 3 Tryz.f3 Rows.fnDigitsSpec Rows.fnDigitsRow = true :=
  joined_of (by kernel_rfl) (by kernel_rfl) (by kernel_rfl) (by kernel_rfl) (by kernel_rfl) jPlace jFollow jRecurse jNamed (by kernel_rfl) (by kernel_rfl) (by kernel_rfl) (by kernel_rfl) (by kernel_rfl) (by kernel_rfl) (by kernel_rfl) (by kernel_rfl) (by kernel_rfl) rfl rfl rfl rfl rfl rfl (by kernel_rfl) (by kernel_rfl) (by kernel_rfl)
theorem over : Rows.fnDigitsRow.holds Tryz.pinned (OpenSpec.ofChange Rows.fnDigitsSpec) :=
  OpenClaim.holds_of_wide 3 Tryz.f3 rfl rfl rfl rfl rfl rfl rfl ⟨rfl, rfl, rfl, rfl, rfl⟩ rfl rfl rfl rfl rfl (by kernel_rfl) Tryz.func3 joined
    (of_decide_eq_true (by kernel_rfl)) (by unfold Func.isWrapper; first | (rw [if_pos (by decide +kernel)]; kernel_rfl) | (rw [if_neg (by decide +kernel)]; exact ⟨rfl, rfl⟩))
    (fun os started H enc _ => lifted os started H enc)
theorem proved : Rows.FnDigitsSaid := over
end Go.Proofs.YtjgafjbccfjojaaGreat.fnDigits
