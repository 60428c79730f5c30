/- Surds: the floor and the next one: both walks. No condition but those that each theorem names. -/
import Derived.Test.YtmgfceiomfiknaaDoorPerP
import Derived.Test.YtmgfceiomfiknaaDoorBoxW
import Derived.Test.YtmgfceiomfiknaaDoorExpW
import Derived.Deep.RegionHeld3
import Derived.IntWalk
namespace Go.Proofs.YtmgfceiomfiknaaDoor
open Go.RowKit Go.Sort

set_option maxHeartbeats 1000000 in
theorem floorSurd_any (p d q : Int) (w : World) (h : surdB p d q = true) :
    Calls Tryd.prog 134 #[surdV p d q] w fun e w' => e = .returned (.int .i64 (flS (p, d, q))) ∧ Below w.heap.size w w' := by
  obtain ⟨⟨d1, d2⟩, ⟨r1, r2⟩, ⟨p1, p2⟩, ⟨q1, q2, q0⟩, ⟨f1, f2⟩, _⟩ := step_bds h
  have HQ : Hid (∀ W, Calls Tryd.prog 112 #[.int .i64 d] W fun e w' => e = .returned (.int .i64 (rtI d)) ∧ W = w') := fun W => root_any d W (by omega) (by omega)
  have HF : Hid (flS (p, d, q) = if 0 < q then (p + rtI d) / q else -((p + rtI d) / (-q)) - 1) := rfl
  have HN : Hid (∀ x m : Int, 0 < m → -(x / m) - 1 = (-x - 1) / m) := neg_floor
  clear h
  generalize rtI d = r at *
  generalize flS (p, d, q) = a at *
  unfold surdV
  by_cases g : 0 < q
  · have HE := Lib.hid (HF.out.trans (if_pos g))
    have HD : Hid (∀ W, Calls Tryd.prog 140 #[.int .i64 (p + r), .int .i64 q] W fun e w' => e = .returned (.int .i64 ((p + r) / q)) ∧ W = w') := fun W => floorDiv_any _ _ W (by omega) (by omega) (by omega) (by omega)
    clear HF HN f1 f2
    go_enter Tryd.func134, Tryd.ntmps134
    go_wp2_with (first | (go_at_call 112; (with_reducible refine (HQ.out _).mono ?_); rintro e w' ⟨rfl, rfl⟩) | (go_at_call 140; (with_reducible refine (HD.out _).mono ?_); rintro e w' ⟨rfl, rfl⟩))
    go_ret
    exact ⟨ret_int HE.out.symm, ext1 _ _⟩
  · have HE := Lib.hid (HF.out.trans (if_neg g))
    have HX : Hid ((-(p + r) - 1) / (-q) = a) := by
      unfold Hid
      rw [HE.out, HN.out (p + r) (-q) (by omega)]
    have hq' : 1 ≤ -q := by omega
    have HD1 : Hid (∀ W, Calls Tryd.prog 140 #[.int .i64 (p + r), .int .i64 (-q)] W fun e w' => e = .returned (.int .i64 ((p + r) / (-q))) ∧ W = w') := fun W => floorDiv_any _ _ W (by omega) (by omega) (by omega) (by omega)
    have HD2 : Hid (∀ W, Calls Tryd.prog 140 #[.int .i64 (-p - r - 1), .int .i64 (-q)] W fun e w' => e = .returned (.int .i64 a) ∧ W = w') := fun W => by
      have hc : Calls Tryd.prog 140 #[.int .i64 (-p - r - 1), .int .i64 (-q)] W fun e w' => e = .returned (.int .i64 ((-p - r - 1) / (-q))) ∧ W = w' := floorDiv_any _ _ W (by omega) (by omega) (by omega) (by omega)
      have e1 : (-p - r - 1) / (-q) = a := by rw [show -p - r - 1 = -(p + r) - 1 by omega]; exact HX.out
      rw [e1] at hc
      exact hc
    have hb := ediv_bd (n := p + r) (g := -q) (M := 1001000) (by omega) (by omega) (by omega)
    obtain ⟨b1, b2⟩ := hb
    have HZ : Hid (-((p + r) / (-q)) - 1 = a) := HE.out.symm
    clear HF HN HE HX
    generalize (p + r) / (-q) = z at *
    go_enter Tryd.func134, Tryd.ntmps134
    go_wp2_with (first | (go_at_call 112; (with_reducible refine (HQ.out _).mono ?_); rintro e w' ⟨rfl, rfl⟩) | (go_at_call 140; (with_reducible refine (HD1.out _).mono ?_); rintro e w' ⟨rfl, rfl⟩) | (go_at_call 140; (with_reducible refine (HD2.out _).mono ?_); rintro e w' ⟨rfl, rfl⟩))
    go_ret
    first
      | exact ⟨rfl, ext1 _ _⟩
      | exact ⟨ret_int HZ.out, ext1 _ _⟩
set_option maxHeartbeats 1000000 in
theorem l07Floor_any (p d q : Int) (w : World) (h : surdB p d q = true) :
    Calls Tryd.prog 113 #[surdV p d q] w fun e w' => e = .returned (.int .i64 (flS (p, d, q))) ∧ Below w.heap.size w w' := by
  obtain ⟨⟨d1, d2⟩, ⟨r1, r2⟩, ⟨p1, p2⟩, ⟨q1, q2, q0⟩, ⟨f1, f2⟩, _⟩ := step_bds h
  have HQ : Hid (∀ W, Calls Tryd.prog 128 #[.int .i64 d] W fun e w' => e = .returned (.int .i64 (rtI d)) ∧ W = w') := fun W => l07Root_any d W (by omega) (by omega)
  have HF : Hid (flS (p, d, q) = if 0 < q then (p + rtI d) / q else -((p + rtI d) / (-q)) - 1) := rfl
  have HN : Hid (∀ x m : Int, 0 < m → -(x / m) - 1 = (-x - 1) / m) := neg_floor
  clear h
  generalize rtI d = r at *
  generalize flS (p, d, q) = a at *
  unfold surdV
  by_cases g : 0 < q
  · have HE := Lib.hid (HF.out.trans (if_pos g))
    have HD : Hid (∀ W, Calls Tryd.prog 132 #[.int .i64 (p + r), .int .i64 q] W fun e w' => e = .returned (.int .i64 ((p + r) / q)) ∧ W = w') := fun W => l02Floor_any _ _ W (by omega) (by omega) (by omega) (by omega)
    clear HF HN f1 f2
    go_enter Tryd.func113, Tryd.ntmps113
    go_wp2_with (first | (go_at_call 128; (with_reducible refine (HQ.out _).mono ?_); rintro e w' ⟨rfl, rfl⟩) | (go_at_call 132; (with_reducible refine (HD.out _).mono ?_); rintro e w' ⟨rfl, rfl⟩))
    go_ret
    exact ⟨ret_int HE.out.symm, ext1 _ _⟩
  · have HE := Lib.hid (HF.out.trans (if_neg g))
    have HX : Hid ((-(p + r) - 1) / (-q) = a) := by
      unfold Hid
      rw [HE.out, HN.out (p + r) (-q) (by omega)]
    have hq' : 1 ≤ -q := by omega
    have HD1 : Hid (∀ W, Calls Tryd.prog 132 #[.int .i64 (p + r), .int .i64 (-q)] W fun e w' => e = .returned (.int .i64 ((p + r) / (-q))) ∧ W = w') := fun W => l02Floor_any _ _ W (by omega) (by omega) (by omega) (by omega)
    have HD2 : Hid (∀ W, Calls Tryd.prog 132 #[.int .i64 (-p - r - 1), .int .i64 (-q)] W fun e w' => e = .returned (.int .i64 a) ∧ W = w') := fun W => by
      have hc : Calls Tryd.prog 132 #[.int .i64 (-p - r - 1), .int .i64 (-q)] W fun e w' => e = .returned (.int .i64 ((-p - r - 1) / (-q))) ∧ W = w' := l02Floor_any _ _ W (by omega) (by omega) (by omega) (by omega)
      have e1 : (-p - r - 1) / (-q) = a := by rw [show -p - r - 1 = -(p + r) - 1 by omega]; exact HX.out
      rw [e1] at hc
      exact hc
    have hb := ediv_bd (n := p + r) (g := -q) (M := 1001000) (by omega) (by omega) (by omega)
    obtain ⟨b1, b2⟩ := hb
    have HZ : Hid (-((p + r) / (-q)) - 1 = a) := HE.out.symm
    clear HF HN HE HX
    generalize (p + r) / (-q) = z at *
    go_enter Tryd.func113, Tryd.ntmps113
    go_wp2_with (first | (go_at_call 128; (with_reducible refine (HQ.out _).mono ?_); rintro e w' ⟨rfl, rfl⟩) | (go_at_call 132; (with_reducible refine (HD1.out _).mono ?_); rintro e w' ⟨rfl, rfl⟩) | (go_at_call 132; (with_reducible refine (HD2.out _).mono ?_); rintro e w' ⟨rfl, rfl⟩))
    go_ret
    first
      | exact ⟨rfl, ext1 _ _⟩
      | exact ⟨ret_int HZ.out, ext1 _ _⟩
set_option maxHeartbeats 2000000 in
theorem nextSurd_any (p d q : Int) (w : World) (h : surdB p d q = true) :
    Calls Tryd.prog 120 #[surdV p d q] w fun e w' => e = .returned (.tuple #[.int .i64 (flS (p, d, q)), surdV (npS (p, d, q)) d (nqS (p, d, q)), .bool (sdOk (nxS (p, d, q)))]) ∧ Below w.heap.size w w' := by
  obtain ⟨⟨d1, d2⟩, ⟨r1, r2⟩, ⟨p1, p2⟩, ⟨q1, q2, q0⟩, ⟨f1, f2⟩, ⟨n1, n2⟩, ⟨m1, m2⟩, ⟨k1, k2⟩, ⟨o1, o2⟩⟩ := step_bds h
  have HF : Hid (∀ W, Calls Tryd.prog 134 #[surdV p d q] W fun e w' => e = .returned (.int .i64 (flS (p, d, q))) ∧ Below W.heap.size W w') := fun W => floorSurd_any p d q W h
  have HP : Hid (flS (p, d, q) * q - p = npS (p, d, q)) := rfl
  have HQ : Hid ((d - npS (p, d, q) * npS (p, d, q)).tdiv q = nqS (p, d, q)) := rfl
  have HV : Hid (∀ W, Calls Tryd.prog 57 #[surdV (npS (p, d, q)) d (nqS (p, d, q))] W fun e w' => e = .returned (.bool (sdOk (nxS (p, d, q)))) ∧ Below W.heap.size W w') := fun W => ValidSurd_any _ _ _ W
  have e0 : (q == 0) = false := by simpa using q0
  clear h
  generalize sdOk (nxS (p, d, q)) = ok at *
  generalize flS (p, d, q) = a at *
  generalize npS (p, d, q) = np at *
  generalize nqS (p, d, q) = nq at *
  have w1 : IntKind.i64.wrap (np * np) = np * np := IntWalk.i64_in _ (by omega)
  have w2 : IntKind.i64.wrap (d - np * np) = d - np * np := IntWalk.i64_in _ (by omega)
  have w3 : IntKind.i64.wrap ((d - np * np).tdiv q) = nq := by rw [HQ.out]; exact IntWalk.i64_in _ (by omega)
  unfold surdV at *
  go_enter Tryd.func120, Tryd.ntmps120
  go_wp2_with fail
  refine (HF.out _).mono ?_
  rintro e w1 ⟨rfl, hb1⟩
  obtain ⟨hc1, hf1⟩ := bcell hb1
  have hy1 := hb1.size
  (try simp at hy1)
  have hz1_0 : w.heap.size < w1.heap.size := by omega
  have hz1_1 : w.heap.size + 1 < w1.heap.size := by omega
  have B1 : BoxV w.heap.size [.int .i64 p, .int .i64 d, .int .i64 q] w1 := ((BoxV.new w #[.int .i64 p, .int .i64 d, .int .i64 q] 58).alloc _).next hb1
  have B2 : BoxV (w.heap.size + 1) [.int .i64 0, .int .i64 0, .int .i64 0] w1 := by
    have := ((BoxV.new (w.alloc (.cells #[.int .i64 p, .int .i64 d, .int .i64 q] 58)) #[.int .i64 0, .int .i64 0, .int .i64 0] 58).next hb1)
    simpa using this
  have x0 := B1.at 0 _ rfl
  have x1 := B1.at 1 _ rfl
  have x2 := B1.at 2 _ rfl
  have H1 := Lib.hid (fun (W : World) (hb : BoxV w.heap.size [.int .i64 p, .int .i64 d, .int .i64 q] W) => And.intro (hb.at 0 _ rfl) (And.intro (hb.at 1 _ rfl) (hb.at 2 _ rfl)))
  have hlt1 := B1.lt
  go_wp2_with fail
  rw [HP.out]
  go_region_held3 (fun w' => w'.cell? ⟨w.heap.size, 0, none⟩ = some (.int .i64 p) ∧ w'.cell? ⟨w.heap.size, 1, none⟩ = some (.int .i64 d) ∧ w'.cell? ⟨w.heap.size, 2, none⟩ = some (.int .i64 q))
    (first | exact H1.out _ B1.drew | exact H1.out _ (B1.drew.alloc _) | exact H1.out _ ((((B1.drew.alloc _).setFar _ (by simp; omega)).setFar _ (by simp; omega)).setFar _ (by simp; omega)))
    (fail)
  go_wp2_with fail
  have B3 : BoxV w1.heap.size [.int .i64 np, .int .i64 d, .int .i64 nq] ((w1.alloc (.cells #[.int .i64 np, .int .i64 d, .int .i64 nq] 58)).drew) := (BoxV.new w1 #[.int .i64 np, .int .i64 d, .int .i64 nq] 58).drew
  have B4 : Hid (BoxV (w.heap.size + 1) [.int .i64 0, .int .i64 0, .int .i64 0] ((w1.alloc (.cells #[.int .i64 np, .int .i64 d, .int .i64 nq] 58)).drew)) := (B2.alloc _).drew
  have hbb : Hid (Below w.heap.size w ((w1.alloc (.cells #[.int .i64 np, .int .i64 d, .int .i64 nq] 58)).drew)) := ext_drew (ext_alloc (ext_trans (ext_alloc (ext1 _ _) _) hb1) _)
  clear x0 x1 x2 H1 B1 B2 hc1 hf1
  generalize ((w1.alloc (.cells #[.int .i64 np, .int .i64 d, .int .i64 nq] 58)).drew) = W at *
  generalize w1.heap.size = g at *
  have x0 := B3.at 0 _ rfl
  have x1 := B3.at 1 _ rfl
  have x2 := B3.at 2 _ rfl
  have H3 := Lib.hid (fun (W : World) (hb : BoxV g [.int .i64 np, .int .i64 d, .int .i64 nq] W) => And.intro (hb.at 0 _ rfl) (And.intro (hb.at 1 _ rfl) (hb.at 2 _ rfl)))
  go_region_held3 (fun w' => w'.cell? ⟨g, 0, none⟩ = some (.int .i64 np) ∧ w'.cell? ⟨g, 1, none⟩ = some (.int .i64 d) ∧ w'.cell? ⟨g, 2, none⟩ = some (.int .i64 nq))
    (first | exact H3.out _ B3.drew | exact H3.out _ (B3.drew.next (by assumption)) | exact H3.out _ ((((B3.drew.next hb4).setFar _ (by omega)).setFar _ (by omega)).setFar _ (by omega)))
    (first | (go_at_call 57; (with_reducible refine (HV.out _).mono ?_); rintro e w4 ⟨rfl, hb4⟩; have B5 := B4.out.drew.next hb4; have y0 := B5.at 0 _ rfl; have y1 := B5.at 1 _ rfl; have y2 := B5.at 2 _ rfl; have F0 := B5.f 0; have F1 := B5.f 1; have F2 := B5.f 2))
  obtain ⟨s0, s1, s2⟩ := set3 y0 y1 y2
  go_wp2
  exact bodyPost_ret (v := .tuple #[.int .i64 a, surdV np d nq, .bool ok]) (by simp [results, Tryd.results120, go_sem, s0, s1, s2]; done) rfl ⟨rfl, ext_set (ext_set (ext_set (ext_trans (ext_drew hbb.out) hb4) (by simp) _) (by simp) _) (by simp) _⟩
/-- What the reference's step returns: whether the next surd is one, and it. -/
def RetNx (w : World) (s : Sd) (e : Ending) (w' : World) : Prop :=
  ∃ t : Sd, e = .returned (.tuple #[surdV t.1 t.2.1 t.2.2, .bool (sdOk (nxS s))]) ∧ (sdOk (nxS s) = true → t = nxS s) ∧ Below w.heap.size w w'
set_option maxHeartbeats 2000000 in
theorem l07Next_any (p d q : Int) (w : World) (h : surdB p d q = true) :
    Calls Tryd.prog 114 #[surdV p d q, .int .i64 (flS (p, d, q))] w (RetNx w (p, d, q)) := by
  obtain ⟨⟨d1, d2⟩, ⟨r1, r2⟩, ⟨p1, p2⟩, ⟨q1, q2, q0⟩, ⟨f1, f2⟩, ⟨n1, n2⟩, ⟨m1, m2⟩, ⟨k1, k2⟩, ⟨o1, o2⟩⟩ := step_bds h
  have HP : Hid (flS (p, d, q) * q - p = npS (p, d, q)) := rfl
  have HQ : Hid ((d - npS (p, d, q) * npS (p, d, q)).tdiv q = nqS (p, d, q)) := rfl
  have HV : Hid (∀ W, Calls Tryd.prog 77 #[surdV (npS (p, d, q)) d (nqS (p, d, q))] W fun e w' => e = .returned (.bool (sdOk (nxS (p, d, q)))) ∧ Below W.heap.size W w') := fun W => l07Ok_any _ _ _ W
  have HOK : Hid (sdOk (nxS (p, d, q)) = surdB (npS (p, d, q)) d (nqS (p, d, q))) := rfl
  have HX : Hid (nxS (p, d, q) = (npS (p, d, q), d, nqS (p, d, q))) := rfl
  have e0 : (q == 0) = false := by simpa using q0
  clear h
  unfold RetNx
  generalize nxS (p, d, q) = X at *
  generalize hok : sdOk X = ok at *
  clear hok
  generalize flS (p, d, q) = a at *
  generalize npS (p, d, q) = np at *
  generalize nqS (p, d, q) = nq at *
  cases hin : inR np (-1000000) 1000000
  · have hf : ok = false := by
      have := HOK.out
      rw [this, surdB, hin]
      simp
    subst hf
    have HIN := Lib.hid hin
    clear HOK hin HX
    unfold surdV at *
    go_enter Tryd.func114, Tryd.ntmps114
    go_wp2_with fail
    rw [HP.out]
    have B2 : BoxV (w.heap.size + 1) [.int .i64 0, .int .i64 0, .int .i64 0] ((w.alloc (.cells #[.int .i64 p, .int .i64 d, .int .i64 q] 58)).alloc (.cells #[.int .i64 0, .int .i64 0, .int .i64 0] 58)) := by
      have := BoxV.new (w.alloc (.cells #[.int .i64 p, .int .i64 d, .int .i64 q] 58)) #[.int .i64 0, .int .i64 0, .int .i64 0] 58
      simpa using this
    have hbb := Lib.hid (ext_alloc (ext1 w (.cells #[.int .i64 p, .int .i64 d, .int .i64 q] 58)) (.cells #[.int .i64 0, .int .i64 0, .int .i64 0] 58))
    generalize ((w.alloc (.cells #[.int .i64 p, .int .i64 d, .int .i64 q] 58)).alloc (.cells #[.int .i64 0, .int .i64 0, .int .i64 0] 58)) = W at *
    obtain ⟨s0, s1, s2⟩ := set3 (B2.at 0 _ rfl) (B2.at 1 _ rfl) (B2.at 2 _ rfl)
    have y0 := B2.at 0 _ rfl
    have y1 := B2.at 1 _ rfl
    have y2 := B2.at 2 _ rfl
    have F0 := B2.f 0
    have F1 := B2.f 1
    have F2 := B2.f 2
    refine (l00In_is HIN.out _).mono ?_
    rintro e w' ⟨rfl, rfl⟩
    go_wp2
    exact bodyPost_ret (v := .tuple #[surdV 0 0 0, .bool false]) (by simp [results, Tryd.results114, go_sem, s0, s1, s2]; done) rfl ⟨(0, 0, 0), rfl, (fun h => by cases h), ext_set (ext_set (ext_set hbb.out (by simp) _) (by simp) _) (by simp) _⟩
  · have HIN := Lib.hid hin
    clear HOK hin
    have w1 : IntKind.i64.wrap (np * np) = np * np := IntWalk.i64_in _ (by omega)
    have w2 : IntKind.i64.wrap (d - np * np) = d - np * np := IntWalk.i64_in _ (by omega)
    have w3 : IntKind.i64.wrap ((d - np * np).tdiv q) = nq := by rw [HQ.out]; exact IntWalk.i64_in _ (by omega)
    unfold surdV at *
    go_enter Tryd.func114, Tryd.ntmps114
    go_wp2_with fail
    rw [HP.out]
    have B1 : BoxV w.heap.size [.int .i64 p, .int .i64 d, .int .i64 q] ((w.alloc (.cells #[.int .i64 p, .int .i64 d, .int .i64 q] 58)).alloc (.cells #[.int .i64 0, .int .i64 0, .int .i64 0] 58)) := ((BoxV.new w #[.int .i64 p, .int .i64 d, .int .i64 q] 58).alloc _)
    have B2 : BoxV (w.heap.size + 1) [.int .i64 0, .int .i64 0, .int .i64 0] ((w.alloc (.cells #[.int .i64 p, .int .i64 d, .int .i64 q] 58)).alloc (.cells #[.int .i64 0, .int .i64 0, .int .i64 0] 58)) := by
      have := BoxV.new (w.alloc (.cells #[.int .i64 p, .int .i64 d, .int .i64 q] 58)) #[.int .i64 0, .int .i64 0, .int .i64 0] 58
      simpa using this
    have hbb0 := Lib.hid (ext_alloc (ext1 w (.cells #[.int .i64 p, .int .i64 d, .int .i64 q] 58)) (.cells #[.int .i64 0, .int .i64 0, .int .i64 0] 58))
    refine (l00In_is HIN.out _).mono ?_
    rintro e w' ⟨rfl, rfl⟩
    generalize hWW : ((w.alloc (.cells #[.int .i64 p, .int .i64 d, .int .i64 q] 58)).alloc (.cells #[.int .i64 0, .int .i64 0, .int .i64 0] 58)) = W1 at *
    have hlt2 := B2.lt
    clear hWW
    have x0 := B1.at 0 _ rfl
    have x1 := B1.at 1 _ rfl
    have x2 := B1.at 2 _ rfl
    have H1 := Lib.hid (fun (W : World) (hb : BoxV w.heap.size [.int .i64 p, .int .i64 d, .int .i64 q] W) => And.intro (hb.at 0 _ rfl) (And.intro (hb.at 1 _ rfl) (hb.at 2 _ rfl)))
    go_wp2_with fail
    go_region_held3 (fun w' => w'.cell? ⟨w.heap.size, 0, none⟩ = some (.int .i64 p) ∧ w'.cell? ⟨w.heap.size, 1, none⟩ = some (.int .i64 d) ∧ w'.cell? ⟨w.heap.size, 2, none⟩ = some (.int .i64 q))
      (first | exact H1.out _ B1.drew | exact H1.out _ (B1.drew.alloc _) | exact H1.out _ ((((B1.drew.alloc _).setFar _ (by simp; omega)).setFar _ (by simp; omega)).setFar _ (by simp; omega)))
      (fail)
    go_wp2_with fail
    have B3 : BoxV W1.heap.size [.int .i64 np, .int .i64 d, .int .i64 nq] ((W1.alloc (.cells #[.int .i64 np, .int .i64 d, .int .i64 nq] 58)).drew) := (BoxV.new W1 #[.int .i64 np, .int .i64 d, .int .i64 nq] 58).drew
    have B4 : Hid (BoxV (w.heap.size + 1) [.int .i64 0, .int .i64 0, .int .i64 0] ((W1.alloc (.cells #[.int .i64 np, .int .i64 d, .int .i64 nq] 58)).drew)) := (B2.alloc _).drew
    have hbb : Hid (Below w.heap.size w ((W1.alloc (.cells #[.int .i64 np, .int .i64 d, .int .i64 nq] 58)).drew)) := ext_drew (ext_alloc hbb0.out _)
    clear x0 x1 x2 H1 B1 B2 hbb0
    generalize ((W1.alloc (.cells #[.int .i64 np, .int .i64 d, .int .i64 nq] 58)).drew) = W at *
    generalize W1.heap.size = g at *
    have x0 := B3.at 0 _ rfl
    have x1 := B3.at 1 _ rfl
    have x2 := B3.at 2 _ rfl
    have H3 := Lib.hid (fun (W : World) (hb : BoxV g [.int .i64 np, .int .i64 d, .int .i64 nq] W) => And.intro (hb.at 0 _ rfl) (And.intro (hb.at 1 _ rfl) (hb.at 2 _ rfl)))
    go_region_held3 (fun w' => w'.cell? ⟨g, 0, none⟩ = some (.int .i64 np) ∧ w'.cell? ⟨g, 1, none⟩ = some (.int .i64 d) ∧ w'.cell? ⟨g, 2, none⟩ = some (.int .i64 nq))
      (first | exact H3.out _ B3.drew | exact H3.out _ (B3.drew.next (by assumption)) | exact H3.out _ ((((B3.drew.next hb4).setFar _ (by omega)).setFar _ (by omega)).setFar _ (by omega)))
      (first | (go_at_call 77; (with_reducible refine (HV.out _).mono ?_); rintro e w4 ⟨rfl, hb4⟩; have B5 := B4.out.drew.next hb4; have y0 := B5.at 0 _ rfl; have y1 := B5.at 1 _ rfl; have y2 := B5.at 2 _ rfl; have F0 := B5.f 0; have F1 := B5.f 1; have F2 := B5.f 2))
    obtain ⟨s0, s1, s2⟩ := set3 y0 y1 y2
    go_wp2
    exact bodyPost_ret (v := .tuple #[surdV np d nq, .bool ok]) (by simp [results, Tryd.results114, go_sem, s0, s1, s2]; done) rfl ⟨(np, d, nq), rfl, (fun _ => HX.out.symm), ext_set (ext_set (ext_set (ext_trans (ext_drew hbb.out) hb4) (by simp) _) (by simp) _) (by simp) _⟩
end Go.Proofs.YtmgfceiomfiknaaDoor
