/- Law: what is proved is accepted. The listed variables lie in memory as the program's text lays them. -/
import Derived.Test.YtpgkellmhlmjeaaGreatDoorMgAB
import Derived.Test.YtpgkellmhlmjeaaGreatDoorMgAT
import Derived.Test.YtpgkellmhlmjeaaGreatDoorMgAS
import Derived.Test.YtpgkellmhlmjeaaGreatDoorMgAV
import Derived.Deep.DeepCutAuto
import Derived.Deep.RegionHeld3
namespace Go.Proofs.YtpgkellmhlmjeaaGreatDoor.fnProved
open Go.ChangeShapes Go.WideShapes Go.ChangeAt Go.RowKit Go.Sort
open Go.ChangeMaps (open_string shut_string)
/-- A certificate in a box of the law's own. -/
structure Cb (h : Nat) (kk : Int) (A : Option Addr) (c : Nat) (xs : List Int) (W : World) : Prop where
  s : BoxV h [.int .i64 kk, .slice A xs.length c] W
  r : RdC W W.heap.size A c xs
theorem Cb.next {h : Nat} {kk : Int} {A : Option Addr} {c : Nat} {xs : List Int} {W W' : World} (t : Cb h kk A c xs W) (hb : Below W.heap.size W W') : Cb h kk A c xs W' := ⟨t.s.next hb, ⟨(t.r.1.below hb).more hb.size, t.r.2⟩⟩
theorem Cb.start {B : Nat} {kk : Int} {A : Option Addr} {c : Nat} {xs : List Int} {W : World} (hw : Wr (Value.int .i64) W B A xs) (hc : xs.length ≤ c ∧ c ≤ maxLen) (T : TypeId) : Cb W.heap.size kk A c xs (W.alloc (.cells #[.int .i64 kk, .slice A xs.length c] T)) :=
  ⟨BoxV.new W #[.int .i64 kk, .slice A xs.length c] T, ⟨(hw.rd.below (ext1 _ _)).more (ext1 _ _).size, hc⟩⟩
set_option maxRecDepth 100000 in
set_option maxHeartbeats 16000000 in
theorem walkG (A B : Option Addr) (n m c d : Nat) (w : World) (hV : Vars w) (h : Bytes w A n) (h' : Bytes w B m) (hn : n ≤ 3000) (hm : m ≤ 3000) :
    Calls Tryz.prog 4 #[.slice A n c, .slice B m d] w fun e w' => e = .returned (.bool true) ∧ Below w.heap.size w w' := by
  have HV : Hid (∀ W, Below w.heap.size w W → Vars W) := fun W hb => hV.next hb
  have HA1 : Hid (∀ W, Below w.heap.size w W → Bytes W A n) := fun W hb => h.next hb
  have HAT : Hid (∀ (W : World) (j k : Int), Below w.heap.size w W → 0 ≤ j → 1 ≤ k → k ≤ 1000000 → Calls Tryz.prog 15 #[.slice B m d, .int .i64 j, .int .i64 k] W fun e w' => ∃ x : Int, e = .returned (.int .i64 x) ∧ 0 ≤ x ∧ x < k ∧ W = w') := fun W j k hb h1 h2 h3 => a2At_any B m d j k W (h'.next hb) h1 h2 h3
  have hl : Hid (∀ W, Calls Tryz.prog 5 #[.slice A n c, .slice B m d] W fun e w' => e = .returned (.bool false) ∧ W = w') := fun W => by
    have h := a2Long_any A B n m c d W
    rwa [decide_eq_false (by omega)] at h
  have HP : Hid (∀ (W : World) (kk : Int) (A : Option Addr) (c : Nat) (xs : List Int), Below w.heap.size w W → RdC W W.heap.size A c xs → ccB kk xs = true → Calls Tryz.prog 26 #[.agg #[.int .i64 kk, .slice A xs.length c], .int .i64 kk] W fun e w' => e = .returned (.bool true) ∧ Below W.heap.size W w') := fun W kk A c xs hb hr hc => a2Proved_any kk A c xs W hr hc (HV.out W hb)
  have E := Lib.hid (Below.refl w.heap.size w)
  clear hV h h' hn hm
  go_enter Tryz.func4, Tryz.ntmps4
  go_wp2_with fail
  refine (hl.out _).mono ?_
  rintro e w' ⟨rfl, rfl⟩
  clear hl
  go_wp2_with fail
  refine (HAT.out _ _ _ E.out (by omega) (by omega) (by omega)).mono ?_
  rintro e w' ⟨x1, rfl, x11, x12, rfl⟩
  go_wp2_with fail
  refine (HAT.out _ _ _ E.out (by omega) (by omega) (by omega)).mono ?_
  rintro e w' ⟨x2, rfl, x21, x22, rfl⟩
  obtain ⟨u1, u2⟩ := mul_rngD (x := x1) (y := x2) (M := 249) (K := 199) (by omega) (by omega) (by omega) (by omega)
  generalize hza : x1 * x2 = za at *
  clear x11 x12 x21 x22
  go_wp2_with fail
  refine (HAT.out _ _ _ E.out (by omega) (by omega) (by omega)).mono ?_
  rintro e w' ⟨x3, rfl, x31, x32, rfl⟩
  go_wp2_with fail
  refine (HAT.out _ _ _ E.out (by omega) (by omega) (by omega)).mono ?_
  rintro e w' ⟨x4, rfl, x41, x42, rfl⟩
  obtain ⟨v1, v2⟩ := mul_rngD (x := x3) (y := x4) (M := 249) (K := 199) (by omega) (by omega) (by omega) (by omega)
  generalize hzb : x3 * x4 = zb at *
  clear x31 x32 x41 x42
  go_wp2_with fail
  refine (a2D_any A n c _ (HA1.out _ E.out)).mono ?_
  rintro e w1 ⟨D, rfl, D1, D2, D3, hb⟩
  have E := Lib.hid (ext_trans E.out hb)
  obtain ⟨xs2, HRO, HC2⟩ := root_law D1 D2 D3
  obtain ⟨k4, xs4, cd4, HUN, HC4⟩ := unit_law D1 D2 D3
  replace HC2 := Lib.hid HC2
  replace HC4 := Lib.hid HC4
  clear hb D1 D2 D3
  go_wp2_with fail
  refine (a2Surd_any A n c _ (HA1.out _ E.out)).mono ?_
  rintro e w2 ⟨sp, sd, sq, rfl, hs, hb⟩
  have S := Lib.hid (BoxV.new w2 #[.int .i64 sp, .int .i64 sd, .int .i64 sq] 46)
  have E := Lib.hid (ext_trans (ext_trans E.out hb) (ext1 w2 (.cells #[.int .i64 sp, .int .i64 sd, .int .i64 sq] 46)))
  obtain ⟨k5, xs5, cd5, HPE, HC5⟩ := period_law hs
  replace HC5 := Lib.hid HC5
  clear hb hs
  unfold surdV at *
  go_upto_region 7 with fail
  generalize w2.alloc (.cells #[.int .i64 sp, .int .i64 sd, .int .i64 sq] 46) = W2 at *
  generalize w2.heap.size = hs at *
  go_wp2_with fail
  refine (a2Small_any A n c _ (HA1.out _ E.out)).mono ?_
  rintro e w3 ⟨f0, f1, rfl, hf, hb⟩
  have F := Lib.hid (BoxV.new w3 #[.int .i64 f0, .int .i64 f1] 41)
  have S := Lib.hid ((S.out.next hb).next (ext1 w3 (.cells #[.int .i64 f0, .int .i64 f1] 41)))
  have E := Lib.hid (ext_trans (ext_trans E.out hb) (ext1 w3 (.cells #[.int .i64 f0, .int .i64 f1] 41)))
  clear hb hf HA1
  unfold fracV at *
  go_upto_region 8 with fail
  generalize w3.alloc (.cells #[.int .i64 f0, .int .i64 f1] 41) = W3 at *
  generalize w3.heap.size = hf at *
  have HNF : Hid (∀ m : Int, ∃ (P0 P1 k : Int), Hid (∀ W, Calls Tryz.prog 19 #[.agg #[.int .i64 f0, .int .i64 f1], .int .i64 m] W fun e w' => e = .returned (.tuple #[.agg #[.int .i64 P0, .int .i64 P1], .int .i64 k]) ∧ Below W.heap.size W w')) := fun m => by
    obtain ⟨⟨P0, P1⟩, _, HN⟩ := sNearest_any f0 f1 m
    exact ⟨P0, P1, _, HN⟩
  have HF2 : Hid (∀ W, Below W3.heap.size W3 W → W.cell? ⟨hf, 0, none⟩ = some (.int .i64 f0) ∧ W.cell? ⟨hf, 1, none⟩ = some (.int .i64 f1)) := fun W hb => ⟨(F.out.next hb).at 0 _ rfl, (F.out.next hb).at 1 _ rfl⟩
  have HE3 : Hid (∀ W, Below W3.heap.size W3 W → Below w.heap.size w W) := fun W hb => E.out.trans (hb.mono E.out.size)
  have HZ : Hid (∀ V : World, Below (W3.alloc (.cells #[.int .i64 0, .int .i64 0] 41)).drew.heap.size (W3.alloc (.cells #[.int .i64 0, .int .i64 0] 41)).drew V → BoxV W3.heap.size [.int .i64 0, .int .i64 0] V) := fun V hb => (BoxV.new W3 #[.int .i64 0, .int .i64 0] 41).drew.next hb
  go_cut [10] (fun v wx => ∃ (g : Nat) (P0 P1 : Int), v = .pointer (some ⟨g, 0, none⟩) ∧ BoxV g [.int .i64 P0, .int .i64 P1] wx ∧ Below W3.heap.size W3 wx)
  case first =>
    go_region_held3 (fun w' => w'.cell? ⟨hf, 0, none⟩ = some (.int .i64 f0) ∧ w'.cell? ⟨hf, 1, none⟩ = some (.int .i64 f1))
      (exact HF2.out _ (by repeat (first | exact Below.refl _ _ | assumption | refine ext_set ?_ (by simp <;> omega) _ | refine ext_alloc ?_ _ | refine ext_drew ?_ | refine ext_trans ?_ (by assumption))))
      (first
        | (go_at_call 15; (with_reducible refine (HAT.out _ _ _ (HE3.out _ (by repeat (first | exact Below.refl _ _ | assumption | refine ext_set ?_ (by simp <;> omega) _ | refine ext_alloc ?_ _ | refine ext_drew ?_ | refine ext_trans ?_ (by assumption)))) (by omega) (by omega) (by omega)).mono ?_); rintro e w' ⟨x, rfl, x1', x2', rfl⟩; obtain ⟨mw, hmw⟩ : ∃ m1, IntKind.i64.wrap (1 + x) = m1 := ⟨_, rfl⟩; obtain ⟨P0, P1, kN, HN⟩ := HNF.out mw)
        | (go_at_call 19; (with_reducible refine (HN.out _).mono ?_); rintro e w5 ⟨rfl, hb5⟩; have y5 := hb5.size; (try simp at y5); (try (have B5 := HZ.out _ hb5; have m0 := B5.at 0 _ rfl; have m1 := B5.at 1 _ rfl; have q0 := B5.f 0; have q1 := B5.f 1))))
    all_goals go_wp2_with fail
    all_goals go_meet
    all_goals first
      | exact ⟨w5.heap.size, P0, P1, rfl, BoxV.new w5 #[.int .i64 P0, .int .i64 P1] _, ext_alloc (ext_trans (ext_drew (Below.refl _ _)) hb5) _⟩
      | exact ⟨W3.heap.size, P0, P1, rfl, by simpa using ((HZ.out _ hb5).set 0 (.int .i64 P0) (by simp)).set 1 (.int .i64 P1) (by simp), ext_set (ext_set (ext_trans (ext_drew (ext1 _ _)) hb5) (by simp) _) (by simp) _⟩
  case rest =>
    obtain ⟨hg, P0, P1, rfl, G, hb⟩ := hcut
    replace G := Lib.hid G
    replace F := Lib.hid (F.out.next hb)
    replace S := Lib.hid (S.out.next hb)
    replace E := Lib.hid (ext_trans E.out hb)
    obtain ⟨bb, kb, k6, xs6, cd6, HIB, HPB, HC6⟩ := best_law f0 f1 P0 P1
    replace HC6 := Lib.hid HC6
    obtain ⟨k1, xs1, cd1, HGC, HC1⟩ := gcd_law (a := za - 900) (b := zb - 700) (by omega) (by omega) (by omega) (by omega)
    replace HC1 := Lib.hid HC1
    clear hb HNF HF2 HE3 HZ
    unfold fracV at HIB HPB
    go_wp2_with fail
    refine (HGC.out _).mono ?_
    rintro e w4 ⟨A1, c1, rfl, hw, hcp, hb⟩
    have T1 := Lib.hid (Cb.start (kk := k1) hw hcp 26)
    replace hb := ext_trans hb (ext1 w4 (.cells #[.int .i64 k1, .slice A1 xs1.length c1] 26))
    replace G := Lib.hid (G.out.next hb)
    replace F := Lib.hid (F.out.next hb)
    replace S := Lib.hid (S.out.next hb)
    replace E := Lib.hid (ext_trans E.out hb)
    clear hw hcp hb HGC
    go_upto_region 10 with fail
    generalize w4.alloc (.cells #[.int .i64 k1, .slice A1 xs1.length c1] 26) = W4 at *
    generalize w4.heap.size = h1 at *
    go_wp2_with fail
    refine (HRO.out _).mono ?_
    rintro e w5 ⟨A2, c2, rfl, hw, hcp, hb⟩
    have T2 := Lib.hid (Cb.start (kk := 2) hw hcp 26)
    replace hb := ext_trans hb (ext1 w5 (.cells #[.int .i64 2, .slice A2 xs2.length c2] 26))
    replace T1 := Lib.hid (T1.out.next hb)
    replace G := Lib.hid (G.out.next hb)
    replace F := Lib.hid (F.out.next hb)
    replace S := Lib.hid (S.out.next hb)
    replace E := Lib.hid (ext_trans E.out hb)
    clear hw hcp hb HRO
    go_upto_region 11 with fail
    generalize w5.alloc (.cells #[.int .i64 2, .slice A2 xs2.length c2] 26) = W5 at *
    generalize w5.heap.size = h2 at *
    go_wp2_with fail
    refine (HAT.out _ _ _ E.out (by omega) (by omega) (by omega)).mono ?_
    rintro e w' ⟨x5, rfl, x51, x52, rfl⟩
    obtain ⟨xs3, HLI, HC3⟩ := lin_law (k := x5) (by omega) (by omega)
    replace HC3 := Lib.hid HC3
    go_wp2_with fail
    refine (HLI.out _).mono ?_
    rintro e w6 ⟨A3, c3, rfl, hw, hcp, hb⟩
    have T3 := Lib.hid (Cb.start (kk := 3) hw hcp 26)
    replace hb := ext_trans hb (ext1 w6 (.cells #[.int .i64 3, .slice A3 xs3.length c3] 26))
    replace T1 := Lib.hid (T1.out.next hb)
    replace T2 := Lib.hid (T2.out.next hb)
    replace G := Lib.hid (G.out.next hb)
    replace F := Lib.hid (F.out.next hb)
    replace S := Lib.hid (S.out.next hb)
    replace E := Lib.hid (ext_trans E.out hb)
    clear hw hcp hb HLI
    go_upto_region 12 with fail
    generalize w6.alloc (.cells #[.int .i64 3, .slice A3 xs3.length c3] 26) = W6 at *
    generalize w6.heap.size = h3 at *
    go_wp2_with fail
    refine (HUN.out _).mono ?_
    rintro e w7 ⟨A4, c4, rfl, hw, hcp, hb⟩
    have T4 := Lib.hid (Cb.start (kk := k4) hw hcp 26)
    replace hb := ext_trans hb (ext1 w7 (.cells #[.int .i64 k4, .slice A4 xs4.length c4] 26))
    replace T1 := Lib.hid (T1.out.next hb)
    replace T2 := Lib.hid (T2.out.next hb)
    replace T3 := Lib.hid (T3.out.next hb)
    replace G := Lib.hid (G.out.next hb)
    replace F := Lib.hid (F.out.next hb)
    replace S := Lib.hid (S.out.next hb)
    replace E := Lib.hid (ext_trans E.out hb)
    clear hw hcp hb HUN
    go_upto_region 13 with fail
    generalize w7.alloc (.cells #[.int .i64 k4, .slice A4 xs4.length c4] 26) = W7 at *
    generalize w7.heap.size = h4 at *
    have s0 := S.out.at 0 _ rfl
    have s1 := S.out.at 1 _ rfl
    have s2 := S.out.at 2 _ rfl
    go_wp2_with fail
    refine (HPE.out _).mono ?_
    rintro e w8 ⟨A5, c5, rfl, hw, hcp, hb⟩
    have T5 := Lib.hid (Cb.start (kk := k5) hw hcp 26)
    replace hb := ext_trans hb (ext1 w8 (.cells #[.int .i64 k5, .slice A5 xs5.length c5] 26))
    replace T1 := Lib.hid (T1.out.next hb)
    replace T2 := Lib.hid (T2.out.next hb)
    replace T3 := Lib.hid (T3.out.next hb)
    replace T4 := Lib.hid (T4.out.next hb)
    replace G := Lib.hid (G.out.next hb)
    replace F := Lib.hid (F.out.next hb)
    replace E := Lib.hid (ext_trans E.out hb)
    clear hw hcp hb HPE S s0 s1 s2
    go_upto_region 14 with fail
    generalize w8.alloc (.cells #[.int .i64 k5, .slice A5 xs5.length c5] 26) = W8 at *
    generalize w8.heap.size = h5 at *
    have f0' := F.out.at 0 _ rfl
    have f1' := F.out.at 1 _ rfl
    have g0' := G.out.at 0 _ rfl
    have g1' := G.out.at 1 _ rfl
    go_wp2_with fail
    refine (HPB.out _).mono ?_
    rintro e w9 ⟨A6, c6, rfl, hw, hcp, hb⟩
    have T6 := Lib.hid (Cb.start (kk := k6) hw hcp 26)
    replace hb := ext_trans hb (ext1 w9 (.cells #[.int .i64 k6, .slice A6 xs6.length c6] 26))
    replace T1 := Lib.hid (T1.out.next hb)
    replace T2 := Lib.hid (T2.out.next hb)
    replace T3 := Lib.hid (T3.out.next hb)
    replace T4 := Lib.hid (T4.out.next hb)
    replace T5 := Lib.hid (T5.out.next hb)
    replace G := Lib.hid (G.out.next hb)
    replace F := Lib.hid (F.out.next hb)
    replace E := Lib.hid (ext_trans E.out hb)
    clear hw hcp hb HPB f0' f1' g0' g1'
    go_upto_region 15 with fail
    generalize w9.alloc (.cells #[.int .i64 k6, .slice A6 xs6.length c6] 26) = W9 at *
    generalize w9.heap.size = h6 at *
    go_cut [123] (fun v wx => v = .bool false ∧ W9 = wx)
    case first =>
      rcases HC1.out with ⟨rfl, rfl, -⟩ | ⟨rfl, ha0, hb0⟩
      · as_aux_lemma =>
          rcases HC4.out with ⟨rfl, rfl, -⟩ | rfl <;> rcases HC5.out with ⟨rfl, rfl, -⟩ | rfl
          all_goals go_wp2_with fail
          all_goals go_meet
          all_goals exact ⟨rfl, rfl⟩
      · as_aux_lemma =>
          have ea : (za - 900 != 0) = false := by simp; omega
          have eb : (zb - 700 != 0) = false := by simp; omega
          clear ha0 hb0 u1 u2 v1 v2 hza hzb
          rcases HC4.out with ⟨rfl, rfl, -⟩ | rfl <;> rcases HC5.out with ⟨rfl, rfl, -⟩ | rfl
          all_goals go_wp2_with fail
          all_goals go_meet
          all_goals exact ⟨rfl, rfl⟩
    case rest =>
      obtain ⟨rfl, rfl⟩ := hcut
      go_upto_region 17 with fail
      have HB9 := Lib.hid (Below.refl W9.heap.size W9)
      go_cut [158] (fun v wx => v = .bool false ∧ Below W9.heap.size W9 wx)
      case first =>
        have p0 := T1.out.s.at 0 _ rfl
        have p1 := T1.out.s.at 1 _ rfl
        have p2 := T2.out.s.at 0 _ rfl
        have p3 := T2.out.s.at 1 _ rfl
        have p4 := T3.out.s.at 0 _ rfl
        have p5 := T3.out.s.at 1 _ rfl
        have p6 := T4.out.s.at 0 _ rfl
        have p7 := T4.out.s.at 1 _ rfl
        have p8 := T5.out.s.at 0 _ rfl
        have p9 := T5.out.s.at 1 _ rfl
        rcases HC1.out with ⟨rfl, rfl, hq1⟩ | ⟨rfl, -, -⟩
        · replace hq1 := Lib.hid hq1
          go_wp2_with fail
          refine (HP.out _ 1 _ _ _ E.out T1.out.r hq1.out).mono ?_
          rintro e w10 ⟨rfl, hb⟩
          replace T1 := Lib.hid (T1.out.next hb)
          replace T2 := Lib.hid (T2.out.next hb)
          replace T3 := Lib.hid (T3.out.next hb)
          replace T4 := Lib.hid (T4.out.next hb)
          replace T5 := Lib.hid (T5.out.next hb)
          replace E := Lib.hid (ext_trans E.out hb)
          replace HB9 := Lib.hid (ext_trans HB9.out hb)
          clear hb p0 p1 p2 p3 p4 p5 p6 p7 p8 p9
          have p0 := T1.out.s.at 0 _ rfl
          have p1 := T1.out.s.at 1 _ rfl
          have p2 := T2.out.s.at 0 _ rfl
          have p3 := T2.out.s.at 1 _ rfl
          have p4 := T3.out.s.at 0 _ rfl
          have p5 := T3.out.s.at 1 _ rfl
          have p6 := T4.out.s.at 0 _ rfl
          have p7 := T4.out.s.at 1 _ rfl
          have p8 := T5.out.s.at 0 _ rfl
          have p9 := T5.out.s.at 1 _ rfl
          as_aux_lemma =>
            go_wp2_with fail
            refine (HP.out _ 2 _ _ _ E.out T2.out.r HC2.out).mono ?_
            rintro e w11 ⟨rfl, hb⟩
            replace T1 := Lib.hid (T1.out.next hb)
            replace T2 := Lib.hid (T2.out.next hb)
            replace T3 := Lib.hid (T3.out.next hb)
            replace T4 := Lib.hid (T4.out.next hb)
            replace T5 := Lib.hid (T5.out.next hb)
            replace E := Lib.hid (ext_trans E.out hb)
            replace HB9 := Lib.hid (ext_trans HB9.out hb)
            clear hb p0 p1 p2 p3 p4 p5 p6 p7 p8 p9
            have p0 := T1.out.s.at 0 _ rfl
            have p1 := T1.out.s.at 1 _ rfl
            have p2 := T2.out.s.at 0 _ rfl
            have p3 := T2.out.s.at 1 _ rfl
            have p4 := T3.out.s.at 0 _ rfl
            have p5 := T3.out.s.at 1 _ rfl
            have p6 := T4.out.s.at 0 _ rfl
            have p7 := T4.out.s.at 1 _ rfl
            have p8 := T5.out.s.at 0 _ rfl
            have p9 := T5.out.s.at 1 _ rfl
            go_wp2_with fail
            refine (HP.out _ 3 _ _ _ E.out T3.out.r HC3.out).mono ?_
            rintro e w12 ⟨rfl, hb⟩
            replace T1 := Lib.hid (T1.out.next hb)
            replace T2 := Lib.hid (T2.out.next hb)
            replace T3 := Lib.hid (T3.out.next hb)
            replace T4 := Lib.hid (T4.out.next hb)
            replace T5 := Lib.hid (T5.out.next hb)
            replace E := Lib.hid (ext_trans E.out hb)
            replace HB9 := Lib.hid (ext_trans HB9.out hb)
            clear hb p0 p1 p2 p3 p4 p5 p6 p7 p8 p9
            have p0 := T1.out.s.at 0 _ rfl
            have p1 := T1.out.s.at 1 _ rfl
            have p2 := T2.out.s.at 0 _ rfl
            have p3 := T2.out.s.at 1 _ rfl
            have p4 := T3.out.s.at 0 _ rfl
            have p5 := T3.out.s.at 1 _ rfl
            have p6 := T4.out.s.at 0 _ rfl
            have p7 := T4.out.s.at 1 _ rfl
            have p8 := T5.out.s.at 0 _ rfl
            have p9 := T5.out.s.at 1 _ rfl
            rcases HC4.out with ⟨rfl, rfl, hq4⟩ | rfl
            · replace hq4 := Lib.hid hq4
              go_wp2_with fail
              refine (HP.out _ 4 _ _ _ E.out T4.out.r hq4.out).mono ?_
              rintro e w12' ⟨rfl, hb⟩
              replace T1 := Lib.hid (T1.out.next hb)
              replace T2 := Lib.hid (T2.out.next hb)
              replace T3 := Lib.hid (T3.out.next hb)
              replace T4 := Lib.hid (T4.out.next hb)
              replace T5 := Lib.hid (T5.out.next hb)
              replace E := Lib.hid (ext_trans E.out hb)
              replace HB9 := Lib.hid (ext_trans HB9.out hb)
              clear hb p0 p1 p2 p3 p4 p5 p6 p7 p8 p9
              have p0 := T1.out.s.at 0 _ rfl
              have p1 := T1.out.s.at 1 _ rfl
              have p2 := T2.out.s.at 0 _ rfl
              have p3 := T2.out.s.at 1 _ rfl
              have p4 := T3.out.s.at 0 _ rfl
              have p5 := T3.out.s.at 1 _ rfl
              have p6 := T4.out.s.at 0 _ rfl
              have p7 := T4.out.s.at 1 _ rfl
              have p8 := T5.out.s.at 0 _ rfl
              have p9 := T5.out.s.at 1 _ rfl
              as_aux_lemma =>
                rcases HC5.out with ⟨rfl, rfl, hq5⟩ | rfl
                · replace hq5 := Lib.hid hq5
                  go_wp2_with fail
                  refine (HP.out _ 5 _ _ _ E.out T5.out.r hq5.out).mono ?_
                  rintro e w13 ⟨rfl, hb⟩
                  replace HB9 := Lib.hid (ext_trans HB9.out hb)
                  clear hb
                  go_wp2_with fail
                  go_meet
                  exact ⟨rfl, HB9.out⟩
                · go_wp2_with fail
                  go_meet
                  exact ⟨rfl, HB9.out⟩
            · as_aux_lemma =>
                rcases HC5.out with ⟨rfl, rfl, hq5⟩ | rfl
                · replace hq5 := Lib.hid hq5
                  go_wp2_with fail
                  refine (HP.out _ 5 _ _ _ E.out T5.out.r hq5.out).mono ?_
                  rintro e w13 ⟨rfl, hb⟩
                  replace HB9 := Lib.hid (ext_trans HB9.out hb)
                  clear hb
                  go_wp2_with fail
                  go_meet
                  exact ⟨rfl, HB9.out⟩
                · go_wp2_with fail
                  go_meet
                  exact ⟨rfl, HB9.out⟩
        · as_aux_lemma =>
            go_wp2_with fail
            refine (HP.out _ 2 _ _ _ E.out T2.out.r HC2.out).mono ?_
            rintro e w11 ⟨rfl, hb⟩
            replace T1 := Lib.hid (T1.out.next hb)
            replace T2 := Lib.hid (T2.out.next hb)
            replace T3 := Lib.hid (T3.out.next hb)
            replace T4 := Lib.hid (T4.out.next hb)
            replace T5 := Lib.hid (T5.out.next hb)
            replace E := Lib.hid (ext_trans E.out hb)
            replace HB9 := Lib.hid (ext_trans HB9.out hb)
            clear hb p0 p1 p2 p3 p4 p5 p6 p7 p8 p9
            have p0 := T1.out.s.at 0 _ rfl
            have p1 := T1.out.s.at 1 _ rfl
            have p2 := T2.out.s.at 0 _ rfl
            have p3 := T2.out.s.at 1 _ rfl
            have p4 := T3.out.s.at 0 _ rfl
            have p5 := T3.out.s.at 1 _ rfl
            have p6 := T4.out.s.at 0 _ rfl
            have p7 := T4.out.s.at 1 _ rfl
            have p8 := T5.out.s.at 0 _ rfl
            have p9 := T5.out.s.at 1 _ rfl
            go_wp2_with fail
            refine (HP.out _ 3 _ _ _ E.out T3.out.r HC3.out).mono ?_
            rintro e w12 ⟨rfl, hb⟩
            replace T1 := Lib.hid (T1.out.next hb)
            replace T2 := Lib.hid (T2.out.next hb)
            replace T3 := Lib.hid (T3.out.next hb)
            replace T4 := Lib.hid (T4.out.next hb)
            replace T5 := Lib.hid (T5.out.next hb)
            replace E := Lib.hid (ext_trans E.out hb)
            replace HB9 := Lib.hid (ext_trans HB9.out hb)
            clear hb p0 p1 p2 p3 p4 p5 p6 p7 p8 p9
            have p0 := T1.out.s.at 0 _ rfl
            have p1 := T1.out.s.at 1 _ rfl
            have p2 := T2.out.s.at 0 _ rfl
            have p3 := T2.out.s.at 1 _ rfl
            have p4 := T3.out.s.at 0 _ rfl
            have p5 := T3.out.s.at 1 _ rfl
            have p6 := T4.out.s.at 0 _ rfl
            have p7 := T4.out.s.at 1 _ rfl
            have p8 := T5.out.s.at 0 _ rfl
            have p9 := T5.out.s.at 1 _ rfl
            rcases HC4.out with ⟨rfl, rfl, hq4⟩ | rfl
            · replace hq4 := Lib.hid hq4
              go_wp2_with fail
              refine (HP.out _ 4 _ _ _ E.out T4.out.r hq4.out).mono ?_
              rintro e w12' ⟨rfl, hb⟩
              replace T1 := Lib.hid (T1.out.next hb)
              replace T2 := Lib.hid (T2.out.next hb)
              replace T3 := Lib.hid (T3.out.next hb)
              replace T4 := Lib.hid (T4.out.next hb)
              replace T5 := Lib.hid (T5.out.next hb)
              replace E := Lib.hid (ext_trans E.out hb)
              replace HB9 := Lib.hid (ext_trans HB9.out hb)
              clear hb p0 p1 p2 p3 p4 p5 p6 p7 p8 p9
              have p0 := T1.out.s.at 0 _ rfl
              have p1 := T1.out.s.at 1 _ rfl
              have p2 := T2.out.s.at 0 _ rfl
              have p3 := T2.out.s.at 1 _ rfl
              have p4 := T3.out.s.at 0 _ rfl
              have p5 := T3.out.s.at 1 _ rfl
              have p6 := T4.out.s.at 0 _ rfl
              have p7 := T4.out.s.at 1 _ rfl
              have p8 := T5.out.s.at 0 _ rfl
              have p9 := T5.out.s.at 1 _ rfl
              as_aux_lemma =>
                rcases HC5.out with ⟨rfl, rfl, hq5⟩ | rfl
                · replace hq5 := Lib.hid hq5
                  go_wp2_with fail
                  refine (HP.out _ 5 _ _ _ E.out T5.out.r hq5.out).mono ?_
                  rintro e w13 ⟨rfl, hb⟩
                  replace HB9 := Lib.hid (ext_trans HB9.out hb)
                  clear hb
                  go_wp2_with fail
                  go_meet
                  exact ⟨rfl, HB9.out⟩
                · go_wp2_with fail
                  go_meet
                  exact ⟨rfl, HB9.out⟩
            · as_aux_lemma =>
                rcases HC5.out with ⟨rfl, rfl, hq5⟩ | rfl
                · replace hq5 := Lib.hid hq5
                  go_wp2_with fail
                  refine (HP.out _ 5 _ _ _ E.out T5.out.r hq5.out).mono ?_
                  rintro e w13 ⟨rfl, hb⟩
                  replace HB9 := Lib.hid (ext_trans HB9.out hb)
                  clear hb
                  go_wp2_with fail
                  go_meet
                  exact ⟨rfl, HB9.out⟩
                · go_wp2_with fail
                  go_meet
                  exact ⟨rfl, HB9.out⟩
      case rest =>
        as_aux_lemma =>
          obtain ⟨rfl, hb⟩ := hcut
          replace T6 := Lib.hid (T6.out.next hb)
          replace F := Lib.hid (F.out.next hb)
          replace G := Lib.hid (G.out.next hb)
          replace E := Lib.hid (ext_trans E.out hb)
          clear hb T1 T2 T3 T4 T5 HC1 HC2 HC3 HC4 HC5 HB9
          have f0' := F.out.at 0 _ rfl
          have f1' := F.out.at 1 _ rfl
          have g0' := G.out.at 0 _ rfl
          have g1' := G.out.at 1 _ rfl
          go_wp2_with fail
          refine (HIB.out _).mono ?_
          rintro e w14 ⟨rfl, hb⟩
          replace T6 := Lib.hid (T6.out.next hb)
          replace E := Lib.hid (ext_trans E.out hb)
          clear hb f0' f1' g0' g1' F G
          have p0 := T6.out.s.at 0 _ rfl
          have p1 := T6.out.s.at 1 _ rfl
          rcases HC6.out with ⟨rfl, rfl, rfl, hq6⟩ | ⟨rfl, hc6⟩
          · replace hq6 := Lib.hid hq6
            go_wp2_with fail
            refine (HP.out _ 6 _ _ _ E.out T6.out.r hq6.out).mono ?_
            rintro e w15 ⟨rfl, hb⟩
            go_wp2
            go_ret
            exact ⟨rfl, ext_trans E.out hb⟩
          · have hc6' : (cd6 == 0) = false := by simpa using hc6
            clear hc6
            go_wp2
            go_ret
            exact ⟨rfl, E.out⟩
set_option maxRecDepth 100000 in
theorem walk (A : Option Addr) (l c : Nat) (z : List Int) (B : Option Addr) (m d : Nat) (y : List Int) (w : World) (hV : Vars w) (hx : IsRow .u8 w A l c z) (hy : IsRow .u8 w B m d y) :
    Calls Tryz.prog 4 #[.slice A l c, .slice B m d] w fun e w' => e = .returned (.bool true) ∧ Below w.heap.size w w' := by
  by_cases h : l ≤ 3000 ∧ m ≤ 3000
  · exact walkG A B l m c d w hV (hx.bytes (by omega)) (hy.bytes (by omega)) h.1 h.2
  · have hl : Hid (∀ W, Calls Tryz.prog 5 #[.slice A l c, .slice B m d] W fun e w' => e = .returned (.bool true) ∧ W = w') := fun W => by
      have h2 := a2Long_any A B l m c d W
      rwa [decide_eq_true (by omega)] at h2
    clear hx hy h hV
    go_enter Tryz.func4, Tryz.ntmps4
    go_wp2_with fail
    refine (hl.out _).mono ?_
    rintro e w' ⟨rfl, rfl⟩
    go_wp2
    go_ret
    exact ⟨rfl, Below.refl _ _⟩
theorem own : ownKnob Tryz.prog.godebug = none := by kernel_rfl
theorem laidOut : laidOutB Tryz.prog = true := by kernel_rfl
/-- How many blocks lie ahead of those of the errors. -/
noncomputable def low : Nat := (World.holding Tryz.prog default ⟨#[], #[], []⟩).heap.size
/-- A world in which the listed variables lie as the row tells. -/
noncomputable def laidWorld (os : Os) : World :=
  let w0 := World.holding Tryz.prog os ⟨#[.cells #[.string ⟨#[118, 97, 108, 117, 101, 32, 111, 117, 116, 32, 111, 102, 32, 114, 97, 110, 103, 101]⟩] 214, .cells #[.string ⟨#[105, 110, 118, 97, 108, 105, 100, 32, 115, 121, 110, 116, 97, 120]⟩] 214], #[], []⟩
  let put (h : Array Obj) (g : Nat) (cs : Array Value) : Array Obj := h.modify g fun
    | .cells _ t frozen => .cells cs t frozen
    | o => o
  let h0 := put w0.heap 3 #[.int .u8 0, .int .u8 1, .int .u8 28, .int .u8 2, .int .u8 29, .int .u8 14, .int .u8 24, .int .u8 3, .int .u8 30, .int .u8 22, .int .u8 20, .int .u8 15, .int .u8 25, .int .u8 17, .int .u8 4, .int .u8 8, .int .u8 31, .int .u8 27, .int .u8 13, .int .u8 23, .int .u8 21, .int .u8 19, .int .u8 16, .int .u8 7, .int .u8 26, .int .u8 12, .int .u8 18, .int .u8 6, .int .u8 11, .int .u8 5, .int .u8 10, .int .u8 9]
  let h1 := put h0 4 #[.int .u8 0, .int .u8 1, .int .u8 56, .int .u8 2, .int .u8 57, .int .u8 49, .int .u8 28, .int .u8 3, .int .u8 61, .int .u8 58, .int .u8 42, .int .u8 50, .int .u8 38, .int .u8 29, .int .u8 17, .int .u8 4, .int .u8 62, .int .u8 47, .int .u8 59, .int .u8 36, .int .u8 45, .int .u8 43, .int .u8 51, .int .u8 22, .int .u8 53, .int .u8 39, .int .u8 33, .int .u8 30, .int .u8 24, .int .u8 18, .int .u8 12, .int .u8 5, .int .u8 63, .int .u8 55, .int .u8 48, .int .u8 27, .int .u8 60, .int .u8 41, .int .u8 37, .int .u8 16, .int .u8 46, .int .u8 35, .int .u8 44, .int .u8 21, .int .u8 52, .int .u8 32, .int .u8 23, .int .u8 11, .int .u8 54, .int .u8 26, .int .u8 40, .int .u8 15, .int .u8 34, .int .u8 20, .int .u8 31, .int .u8 10, .int .u8 25, .int .u8 14, .int .u8 19, .int .u8 9, .int .u8 13, .int .u8 8, .int .u8 7, .int .u8 6]
  let h2 := put h1 1 #[.int .u64 1, .int .u64 10, .int .u64 100, .int .u64 1000, .int .u64 10000, .int .u64 100000, .int .u64 1000000, .int .u64 10000000, .int .u64 100000000, .int .u64 1000000000, .int .u64 10000000000, .int .u64 100000000000, .int .u64 1000000000000, .int .u64 10000000000000, .int .u64 100000000000000, .int .u64 1000000000000000, .int .u64 10000000000000000, .int .u64 100000000000000000, .int .u64 1000000000000000000, .int .u64 10000000000000000000]
  let h3 := put h2 6 #[.int .u8 128, .int .u8 191, .int .u8 160, .int .u8 191, .int .u8 128, .int .u8 159, .int .u8 144, .int .u8 191, .int .u8 128, .int .u8 143, .int .u8 0, .int .u8 0, .int .u8 0, .int .u8 0, .int .u8 0, .int .u8 0, .int .u8 0, .int .u8 0, .int .u8 0, .int .u8 0, .int .u8 0, .int .u8 0, .int .u8 0, .int .u8 0, .int .u8 0, .int .u8 0, .int .u8 0, .int .u8 0, .int .u8 0, .int .u8 0, .int .u8 0, .int .u8 0]
  let h4 := put h3 8 #[.iface 212 (.pointer (some ⟨low + 0, 0, none⟩))]
  let h5 := put h4 7 #[.iface 212 (.pointer (some ⟨low + 1, 0, none⟩))]
  let h6 := put h5 5 (Go.Pinned.utf8FirstZ.map fun (n : Nat) => Value.int .u8 (n : Int)).toArray
  { w0 with heap := h6 }
theorem laidWorld_met (os : Os) (args : Array Value) : laidMetH Tryz.prog Rows.fnProvedRow.laid ((laidWorld os).forCall (fun _ _ => 0) ⟨#[], args, []⟩).memory :=
  (LaidIn.of_run [3, 4, 1, 6, 8, 7, 5, low + 0, low + 1] 8 (by kernel_rfl) (by kernel_rfl) (by kernel_rfl) (by kernel_rfl) : LaidIn Tryz.prog ((laidWorld os).forCall (fun _ _ => 0) ⟨#[], args, []⟩).memory Rows.fnProvedRow.laid [3, 4, 1, 6, 8, 7, 5, low + 0, low + 1]).met
set_option linter.unusedVariables false in
set_option maxRecDepth 100000 in
theorem lifted (os : Os) (started : os.Started) (H : Type) (enc : TypeId × Value → H) :
    ReturnsInHanded {} Tryz.checked os 4 .any (fun w args => (Rows.fnProvedSpec.pre enc Tryz.prog Tryz.f4 [] false w args ∧ laidMetH Tryz.prog Rows.fnProvedRow.laid w) ∧ sizedMet enc Tryz.prog Tryz.f4 (OpenSpec.ofChange Rows.fnProvedSpec) false w args) (Rows.fnProvedSpec.post enc Tryz.prog Tryz.f4 false true false false) := by
  refine returnsInHanded_of_change_and_shaped (C := Tryz.checked) (X := fun w _ => laidMetH Tryz.prog Rows.fnProvedRow.laid w) (fun _ _ _ hh h => h.of_heap hh) own started (by kernel_rfl) Tryz.func4
    (ChangeSpec.witness_at (enc := enc) (C := Tryz.checked) (os := os) (X := fun w _ => laidMetH Tryz.prog Rows.fnProvedRow.laid w) false (laidWorld os) #[.slice none 0 0, .slice none 0 0] 8 rfl (by kernel_rfl) (by kernel_rfl) (by kernel_rfl) (by kernel_rfl) (by kernel_rfl) (laidWorld_met os _)) ?_
  intro W base args ds gs before hval0 hW _ _ hL hsh _
  have hT : Lib.TabIs Tryz.prog W "internal/strconv.uint64pow10" .u64 Lib.pow10Tab := tab_of (laidMet.tail (laidMet.tail hL))
  have hT : Vars W := ⟨hT, len_of hsh, syn_of (laidMet.tail (laidMet.tail (laidMet.tail (laidMet.tail (laidMet.tail (hL)))))), rng_of (laidMet.tail (laidMet.tail (laidMet.tail (laidMet.tail (hL)))))⟩
  have hval : ∀ (j : Nat) t v, Tryz.f4.params[j]? = some t → args[j]? = some v → Value.okWide Tryz.prog W .any base t v := hval0
  have hW' := hW
  obtain ⟨p, q, hA0, hV, rfl, hfz, hnd⟩ := hW
  have hA : DataW.TrodAll enc Tryz.prog W 0 (fun _ => true) true Tryz.f4.params.toList args.toList ds p := hA0
  rw [Tryz.params4] at hA hval
  obtain ⟨v0, vs0, d0, ds0, p0, q0, hargs, rfl, rfl, h0, r0⟩ := trodAll_cons hA
  obtain ⟨v1, vs1, d1, ds1, p1, q1, rfl, rfl, rfl, h1, r1⟩ := trodAll_cons r0
  obtain ⟨rfl, rfl, rfl⟩ := trodAll_nil r1
  obtain rfl : args = #[v0, v1] := by cases args; simp_all
  obtain ⟨rfl, rfl⟩ := trodVars_none hV
  have k0 := h0
  have lt0 : ∀ x ∈ p0, x.block < W.heap.size := by obtain ⟨m, hm⟩ := k0; exact DataW.trod_lt m _ _ _ hm
  obtain ⟨A0, l0, c0, rfl⟩ := okWide_slice Tryz.underlying22 (hval 0 22 v0 rfl rfl)
  obtain ⟨z0, w0⟩ : ∃ zs, IsRow .u8 W A0 l0 c0 zs := isRow_arg Tryz.underlying22 Tryz.underlying5 (by kernel_rfl) h0
  have k1 := h1
  have lt1 : ∀ x ∈ p1, x.block < W.heap.size := by obtain ⟨m, hm⟩ := k1; exact DataW.trod_lt m _ _ _ hm
  obtain ⟨A1, l1, c1, rfl⟩ := okWide_slice Tryz.underlying22 (hval 1 22 v1 rfl rfl)
  obtain ⟨z1, w1⟩ : ∃ zs, IsRow .u8 W A1 l1 c1 zs := isRow_arg Tryz.underlying22 Tryz.underlying5 (by kernel_rfl) h1
  clear hA0 hval0
  refine (walk A0 l0 c0 z0 A1 l1 c1 z1 W hT w0 w1).mono fun e W' ⟨he, bel⟩ => ?_
  subst he
  exact ⟨_, rfl, _, _, _, [], _, [], hW', trodAll_mk1 (shut_bool Tryz.underlying4 _), (trodAll_cons_mk (Below.trod laidOut (by kernel_rfl) (of_decide_eq_true (by kernel_rfl)) k0 bel lt0) (trodAll_cons_mk (Below.trod laidOut (by kernel_rfl) (of_decide_eq_true (by kernel_rfl)) k1 bel lt1) trodAll_mk0)), rfl, bel.frame _, fun h => by cases h⟩
theorem jPlace : (Rows.fnProvedRow.inPlace == Tryz.prog.inPlace 4) = true := by kernel_rfl
theorem jFollow : (Rows.fnProvedRow.unfollowed == Tryz.prog.unfollowed 4) = true := by kernel_rfl
theorem jRecurse : (Rows.fnProvedRow.recurses == Tryz.prog.recurses 4) = true := by kernel_rfl
theorem jNamed : (Rows.fnProvedRow.named == Tryz.prog.varsNamed 4) = true := by kernel_rfl
theorem joined : joinedFacts Tryz.prog 4 Tryz.f4 Rows.fnProvedSpec Rows.fnProvedRow = true :=
  joined_of (by kernel_rfl) (by kernel_rfl) (by kernel_rfl) (by kernel_rfl) (by kernel_rfl) jPlace jFollow jRecurse jNamed (by kernel_rfl) (by kernel_rfl) (by kernel_rfl) (by kernel_rfl) (by kernel_rfl) (by kernel_rfl) (by kernel_rfl) (by kernel_rfl) (by kernel_rfl) rfl rfl rfl rfl rfl rfl (by kernel_rfl) (by kernel_rfl) (by kernel_rfl)
theorem over : Rows.fnProvedRow.holds Tryz.pinned (OpenSpec.ofChange Rows.fnProvedSpec) :=
  OpenClaim.holds_of_wide 4 Tryz.f4 rfl rfl rfl rfl rfl rfl rfl ⟨rfl, rfl, rfl, rfl, rfl⟩ rfl rfl rfl rfl rfl (by kernel_rfl) Tryz.func4 joined
    (of_decide_eq_true (by kernel_rfl)) (by unfold Func.isWrapper; first | (rw [if_pos (by decide +kernel)]; kernel_rfl) | (rw [if_neg (by decide +kernel)]; exact ⟨rfl, rfl⟩))
    (fun os started H enc _ => lifted os started H enc)
theorem fname : Tryz.prog.funcNamed "loop.example/g01007/laws.FnProved" = some 4 := by kernel_rfl
theorem stand22 : Tryz.prog.wantsStandIn 22 = false := by kernel_rfl
theorem proved : Rows.FnProvedCardSaid :=
  Claim7.holds_tied_plain_at .later [] [.data, .data, .data, .data, .sentinel, .sentinel, .pinned] true (true, "0fa224d301dfea33a033ce5574f22f49b9c0423cfcac78af5f175f588346e406") true over (fun _ h => by cases h) (by kernel_rfl) (fun _ h => by cases h) fnProved_row_tie rfl ⟨rfl, rfl⟩ (by kernel_rfl) rfl
    (fun f fn hf hfn => by
      obtain rfl : f = 4 := (Option.some.inj (fname.symm.trans hf)).symm
      obtain rfl : fn = Tryz.f4 := (Option.some.inj (Tryz.func4.symm.trans hfn)).symm
      exact ⟨by kernel_rfl, fun j t ht => by
        rw [Tryz.params4] at ht
        rcases j with _ | j
        · obtain rfl : t = 22 := by simpa using ht.symm
          exact stand22
        rcases j with _ | j
        · obtain rfl : t = 22 := by simpa using ht.symm
          exact stand22
        simp at ht⟩)
    (by kernel_rfl)
end Go.Proofs.YtpgkellmhlmjeaaGreatDoor.fnProved
