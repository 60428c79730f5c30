/- Parts of the proof, merged: UnitSW CheckBW. No condition but those that each theorem names. -/
import Derived.Test.YtpgkellmhlmjeaaGreatDoorMgAJ
import Derived.Deep.RegionWith
import Derived.Deep.RegionLaw
import Derived.Test.YtpgkellmhlmjeaaGreatDoorMgAI
import Derived.Deep.DeepCutAuto
namespace Go.Proofs.YtpgkellmhlmjeaaGreatDoor
open Go.RowKit Go.Sort
theorem set4 {w : World} {b : Nat} {x y z u : Value} (h0 : w.cell? ⟨b, 0, none⟩ = some x) (h1 : w.cell? ⟨b, 1, none⟩ = some y) (h2 : w.cell? ⟨b, 2, none⟩ = some z) (h3 : w.cell? ⟨b, 3, none⟩ = some u) :
    (∀ v, (w.setCell ⟨b, 0, none⟩ v).cell? ⟨b, 0, none⟩ = some v) ∧ (∀ u v, ((w.setCell ⟨b, 0, none⟩ u).setCell ⟨b, 1, none⟩ v).cell? ⟨b, 1, none⟩ = some v) ∧ (∀ t u v, (((w.setCell ⟨b, 0, none⟩ t).setCell ⟨b, 1, none⟩ u).setCell ⟨b, 2, none⟩ v).cell? ⟨b, 2, none⟩ = some v) ∧
      (∀ s t u v, ((((w.setCell ⟨b, 0, none⟩ s).setCell ⟨b, 1, none⟩ t).setCell ⟨b, 2, none⟩ u).setCell ⟨b, 3, none⟩ v).cell? ⟨b, 3, none⟩ = some v) := by
  obtain ⟨a1, a2, a3⟩ := set3 h0 h1 h2
  refine ⟨a1, a2, a3, fun s t u v => World.cell?_setCell_same (v := v) _ _ ((World.cell?_setCell_other _ ⟨b, 2, none⟩ ⟨b, 3, none⟩ _ (by simp)).trans ((World.cell?_setCell_other _ ⟨b, 1, none⟩ ⟨b, 3, none⟩ _ (by simp)).trans ((World.cell?_setCell_other _ ⟨b, 0, none⟩ ⟨b, 3, none⟩ _ (by simp)).trans h3)))⟩
set_option maxRecDepth 100000 in
set_option maxHeartbeats 2000000 in
theorem l08Step_any (p q x y t : Int) (w : World) (hp : bil p) (hq : bil q) (hx : bil x) (hy : bil y) (ht : bil t) :
    Calls Tryz.prog 89 #[cvV p q x y, .int .i64 t] w fun e w' => e = .returned (.tuple #[cvV (t * p + x) (t * q + y) p q, .bool (smB (t * p + x) (t * q + y))]) ∧ Below w.heap.size w w' := by
  obtain ⟨t1, t2⟩ := id ht
  obtain ⟨p1, p2⟩ := id hp
  obtain ⟨q1, q2⟩ := id hq
  obtain ⟨x1, x2⟩ := id hx
  obtain ⟨y1, y2⟩ := id hy
  obtain ⟨u1, u2⟩ := mul_bd (x := t) (y := p) (M := 1000000000) (N := 1000000000) (by omega) t2 (by omega) p2 t1 p1
  obtain ⟨u3, u4⟩ := mul_bd (x := t) (y := q) (M := 1000000000) (N := 1000000000) (by omega) t2 (by omega) q2 t1 q1
  have HN := Lib.hid (fun W : World => l03Next_any p q x y t W hp hq hx hy ht)
  have hb1 : -1000000001000000000 ≤ t * p + x ∧ t * p + x ≤ 1000000001000000000 := by omega
  have hb2 : -1000000001000000000 ≤ t * q + y ∧ t * q + y ≤ 1000000001000000000 := by omega
  unfold smB
  clear hp hq hx hy ht u1 u2 u3 u4
  generalize t * p + x = a at *
  generalize t * q + y = b at *
  obtain ⟨a1, a2⟩ := hb1
  obtain ⟨b1, b2⟩ := hb2
  have HA := Lib.hid (fun W : World => l02Size_any a W (by omega) (by omega))
  have HB := Lib.hid (fun W : World => l02Size_any b W (by omega) (by omega))
  generalize (a.natAbs : Int) = na at *
  generalize (b.natAbs : Int) = nb at *
  unfold cvV at *
  cases hd : decide (na ≤ 1000000000)
  all_goals
    first | (rw [Bool.true_and]; have hle : na ≤ 1000000000 := of_decide_eq_true hd; clear hd) | (rw [Bool.false_and]; have hgt : ¬ na ≤ 1000000000 := of_decide_eq_false hd; have hg2 : 1000000000 < na := Int.not_le.mp hgt)
    go_enter Tryz.func89, Tryz.ntmps89
    go_wp2_with fail
    refine (HN.out _).mono ?_
    rintro e w1 ⟨rfl, hb1⟩
    have B2 : BoxV (w.heap.size + 1) [.int .i64 0, .int .i64 0, .int .i64 0, .int .i64 0] w1 := by
      have h := (BoxV.new (w.alloc (.cells #[.int .i64 p, .int .i64 q, .int .i64 x, .int .i64 y] 111)) #[.int .i64 0, .int .i64 0, .int .i64 0, .int .i64 0] 111).next hb1
      simpa using h
    have HBB := Lib.hid (ext_trans (ext_alloc (ext1 w (.cells #[.int .i64 p, .int .i64 q, .int .i64 x, .int .i64 y] 111)) (.cells #[.int .i64 0, .int .i64 0, .int .i64 0, .int .i64 0] 111)) hb1)
    have hg1 := B2.lt
    clear hb1
    go_wp2_with fail
    have B5 := BoxV.new w1 #[.int .i64 a, .int .i64 b, .int .i64 p, .int .i64 q] 111
    have B4 := Lib.hid (B2.alloc (.cells #[.int .i64 a, .int .i64 b, .int .i64 p, .int .i64 q] 111))
    have HB4 := Lib.hid (ext_alloc HBB.out (.cells #[.int .i64 a, .int .i64 b, .int .i64 p, .int .i64 q] 111))
    clear B2 HBB
    generalize w1.alloc (.cells #[.int .i64 a, .int .i64 b, .int .i64 p, .int .i64 q] 111) = W at *
    generalize w1.heap.size = g at *
    have z0 := B5.at 0 _ rfl
    have z1 := B5.at 1 _ rfl
    have z2 := B5.at 2 _ rfl
    have z3 := B5.at 3 _ rfl
    have H3 := Lib.hid (fun (W : World) (hb : BoxV g [.int .i64 a, .int .i64 b, .int .i64 p, .int .i64 q] W) => And.intro (hb.at 0 _ rfl) (And.intro (hb.at 1 _ rfl) (And.intro (hb.at 2 _ rfl) (hb.at 3 _ rfl))))
    have B6 := B4.out
    have y0' := B6.at 0 _ rfl
    have y1' := B6.at 1 _ rfl
    have y2' := B6.at 2 _ rfl
    have y3' := B6.at 3 _ rfl
    have F0 := B6.f 0
    have F1 := B6.f 1
    have F2 := B6.f 2
    have F3 := B6.f 3
    first | go_region_law (first | (go_simp; go_at_call 97; (with_reducible refine (HA.out _).mono ?_); rintro e w' ⟨rfl, rfl⟩) | (go_simp; go_at_call 97; (with_reducible refine (HB.out _).mono ?_); rintro e w' ⟨rfl, rfl⟩) | fail) | fail
    all_goals
      obtain ⟨s0, s1, s2, s3⟩ := set4 y0' y1' y2' y3'
      go_wp2
      first
        | exact bodyPost_ret (v := .tuple #[.agg #[.int .i64 a, .int .i64 b, .int .i64 p, .int .i64 q], .bool _]) (by simp [results, Tryz.results89, go_sem, s0, s1, s2, s3]; done) rfl ⟨rfl, by repeat (first | exact HB4.out | refine ext_set ?_ (by simp) _ | refine ext_drew ?_)⟩
        | exact bodyPost_ret (v := .tuple #[.agg #[.int .i64 a, .int .i64 b, .int .i64 p, .int .i64 q], .bool (decide (nb ≤ 1000000000))]) (by simp [results, Tryz.results89, go_sem, s0, s1, s2, s3]; done) rfl ⟨rfl, by repeat (first | exact HB4.out | refine ext_set ?_ (by simp) _ | refine ext_drew ?_)⟩
end Go.Proofs.YtpgkellmhlmjeaaGreatDoor
namespace Go.Proofs.YtpgkellmhlmjeaaGreatDoor
open Go.RowKit Go.Sort
theorem own_fullS {w : World} {base : Nat} {v : Value} {L : List Sd} {e : TypeId} (h : w.ownsRow base e 3 v L.length ((sdL L).map (Value.int .i64))) : ∃ A c, v = .slice A L.length c ∧ Wr (Value.int .i64) w base A (sdL L) ∧ L.length ≤ c ∧ c ≤ maxLen := by
  obtain ⟨_, A, c, e, g⟩ := Wr.of_ownS h
  refine ⟨A, c, e, g, ?_⟩
  rcases h.2 with ⟨e2, h0⟩ | ⟨g', cap, cur, e2, _, _, hc, hm, _⟩
  · rw [e] at e2
    injection e2 with _ _ e3
    rw [e3, h0]
    exact ⟨Nat.le_refl _, Nat.zero_le _⟩
  · rw [e] at e2
    injection e2 with _ _ e3
    rw [e3]
    exact ⟨hc, hm⟩
/-- What a call returns that goes along surds. -/
def RetAl (w : World) (R : Option (List Sd)) (e : Ending) (w' : World) : Prop :=
  ∃ A c, e = .returned (.tuple #[.slice A (R.getD []).length c, .bool R.isSome]) ∧ Wr (Value.int .i64) w' w.heap.size A (sdL (R.getD [])) ∧ ((R.getD []).length ≤ c ∧ c ≤ maxLen) ∧ Below w.heap.size w w'
theorem RetAl.none_ {w w' : World} (h : Below w.heap.size w w') : RetAl w none (.returned (.tuple #[.slice none 0 0, .bool false])) w' := ⟨none, 0, rfl, fun h => absurd h (by simp [sdL]), ⟨Nat.zero_le _, Nat.zero_le _⟩, h⟩
/-- What holds on the way: the surd's box, the row. -/
structure SoB (w : World) (out : List Sd) (s : Sd) (v : Value) (wr : World) : Prop where
  box : BoxV w.heap.size [.int .i64 s.1, .int .i64 s.2.1, .int .i64 s.2.2] wr
  own : wr.ownsRow (w.heap.size + 1) 46 3 v out.length ((sdL out).map (Value.int .i64))
  below : Below w.heap.size w wr
  lt : w.heap.size + 1 ≤ wr.heap.size
  ok : sdOk s = true
theorem SoB.next {w : World} {out : List Sd} {s : Sd} {v : Value} {wr w2 : World} (h : SoB w out s v wr) (hb : Below wr.heap.size wr w2) : SoB w out s v w2 :=
  ⟨h.box.next hb, own_below h.own hb, ext_trans h.below hb, Nat.le_trans h.lt hb.size, h.ok⟩
theorem SoB.set {w : World} {out : List Sd} {s t : Sd} {v : Value} {wr : World} (h : SoB w out s v wr) (ht : sdOk t = true) :
    SoB w out t v (((wr.setCell ⟨w.heap.size, 0, none⟩ (.int .i64 t.1)).setCell ⟨w.heap.size, 1, none⟩ (.int .i64 t.2.1)).setCell ⟨w.heap.size, 2, none⟩ (.int .i64 t.2.2)) :=
  ⟨((h.box.set 0 _ (by simp)).set 1 _ (by simp)).set 2 _ (by simp), own_setFar (own_setFar (own_setFar h.own _ (by omega)) _ (by omega)) _ (by omega), ext_set (ext_set (ext_set h.below (by simp) _) (by simp) _) (by simp) _, by simpa using h.lt, ht⟩
theorem SoB.push {w : World} {out : List Sd} {s t : Sd} {v : Value} {wr w3 : World} {o : Obj} (h : SoB w out s v wr) (v' : Value)
    (hown3 : w3.ownsRow (w.heap.size + 1) 46 3 v' (out.length + 1) ((sdL out).map (Value.int .i64) ++ [.int .i64 t.1, .int .i64 t.2.1, .int .i64 t.2.2])) (hg : (wr.alloc o).grownBy w3 v.ownBlock) : SoB w (out ++ [t]) s v' w3 := by
  refine ⟨(h.box.alloc o).grown hg (own_far h.own (by omega)), ?_, below_grown (ext_alloc h.below o) (h.own.alloc o) (by omega) hg, ?_, h.ok⟩
  · rw [sdL_snoc]
    simpa using hown3
  · have := hg.size
    have := h.lt
    simp at *
    omega
theorem al_snoc (out : List Sd) (x : Sd) (o : Option (List Sd)) : o.map ((out ++ [x]) ++ ·) = (o.map (x :: ·)).map (out ++ ·) := by cases o <;> simp
set_option maxRecDepth 100000 in
set_option maxHeartbeats 3000000 in
theorem surdsBy_any (p d q : Int) (A : Option Addr) (c : Nat) (ts : List Int) (w : World) (hx : Rd (Value.int .i64) w w.heap.size A ts) (hl : ts.length ≤ 1000) :
    Calls Tryz.prog 71 #[surdV p d q, .slice A ts.length c] w (RetAl w (along (p, d, q) ts)) := by
  obtain ⟨ti, hi, hz0, hz1, hz2⟩ := info_parts infoSd'
  have HI := Lib.hid hi
  have HX := Lib.hid hx
  clear hi hx
  have HV : Hid (∀ W, Calls Tryz.prog 104 #[surdV p d q] W fun e w' => e = .returned (.bool (sdOk (p, d, q))) ∧ Below W.heap.size W w') := fun W => ValidSurd_any _ _ _ W
  have HAl : Hid (along (p, d, q) ts = if sdOk (p, d, q) = true then (alg ts (p, d, q)).map ((p, d, q) :: ·) else none) := rfl
  unfold surdV at *
  cases hok : sdOk (p, d, q)
  · rw [hok] at HAl HV
    have HR : Hid (along (p, d, q) ts = none) := HAl.out
    rw [HR.out]
    clear HR HAl hok
    go_enter Tryz.func71, Tryz.ntmps71
    go_wp2_with fail
    refine (HV.out _).mono ?_
    rintro e w1 ⟨rfl, hb1⟩
    go_wp2
    go_ret2
    exact RetAl.none_ (ext_trans (ext1 _ _) hb1)
  · obtain ⟨R, hR⟩ : ∃ R, along (p, d, q) ts = R := ⟨_, rfl⟩
    have HR : Hid ((alg (ts.drop 0) (p, d, q)).map ([(p, d, q)] ++ ·) = R) := by
      have h := HAl.out
      rw [hok, if_pos rfl, hR] at h
      exact h.symm
    rw [hok] at HV
    rw [hR]
    have HOK0 := Lib.hid hok
    clear hR HAl hok
    have B0 := Lib.hid (BoxV.new w #[.int .i64 p, .int .i64 d, .int .i64 q] 46)
    go_enter Tryz.func71, Tryz.ntmps71
    go_wp2_with fail
    refine (HV.out _).mono ?_
    rintro e w1 ⟨rfl, hb1⟩
    have B1 := Lib.hid (B0.out.next hb1)
    have E1 := Lib.hid (ext_trans (ext1 w (.cells #[.int .i64 p, .int .i64 d, .int .i64 q] 46)) hb1)
    have x0 := B1.out.at 0 _ rfl
    have x1 := B1.out.at 1 _ rfl
    have x2 := B1.out.at 2 _ rfl
    have hsz1 : w.heap.size + 1 ≤ w1.heap.size := B1.out.lt
    have HV0 : Hid (SoB w [(p, d, q)] (p, d, q) (.slice (some ⟨w1.heap.size, 0, none⟩) 1 1) (w1.alloc (.cells #[.int .i64 p, .int .i64 d, .int .i64 q] 46))) := by
      refine ⟨B1.out.alloc _, ?_, ext_alloc E1.out _, by simp; omega, HOK0.out⟩
      have h := World.ownsRow_lit (base := w.heap.size + 1) (e := 46) (size := 3) w1 #[.int .i64 p, .int .i64 d, .int .i64 q] 1 hsz1 (by unfold maxLen; omega) rfl
      simpa [sdL] using h
    clear B0 hb1 HV
    go_wp2_with fail
    generalize w1.alloc (.cells #[.int .i64 p, .int .i64 d, .int .i64 q] 46) = W0 at *
    generalize w1.heap.size = g1 at *
    clear x0 x1 x2 B1 E1 hsz1 HOK0
    go_loopw [19, 6] (fun t v wr => ∃ (k : Nat) (s : Sd) (out : List Sd), k ≤ ts.length ∧ t = .int .i64 k ∧ out.length = k + 1 ∧ Hid ((alg (ts.drop k) s).map (out ++ ·) = R) ∧ Hid (SoB w out s v wr)) (fun t _ _ => ts.length - (intOf t).toNat)
    case atStart => exact ⟨0, (p, d, q), [(p, d, q)], by omega, rfl, rfl, HR.out, HV0.out⟩
    case round =>
      obtain ⟨k, ⟨sp, sd, sq⟩, out, hk, rfl, hol, HA, HV1⟩ := hrel
      have HOL := Lib.hid hol
      have hol1 : out.length ≤ 1001 := by omega
      have hol2 : 0 < out.length := by omega
      clear HR HV0 hol
      by_cases hlt : k < ts.length
      · obtain ⟨b, off, rfl, hb, hc⟩ := HX.out (by omega)
        obtain ⟨t, htk⟩ : ∃ t, ts[k]? = some t := ⟨_, List.getElem?_eq_getElem hlt⟩
        have cx := (HV1.out.below.cell (p := ⟨b, off + k, none⟩) hb).trans (hc k t htk)
        have x0 := HV1.out.box.at 0 _ rfl
        have x1 := HV1.out.box.at 1 _ rfl
        have x2 := HV1.out.box.at 2 _ rfl
        have HNX := Lib.hid (fun W : World => nextSurd_any sp sd sq W HV1.out.ok)
        have HS := Lib.hid (alg_step (s := (sp, sd, sq)) htk)
        have hNX : Hid (nxS (sp, sd, sq) = (npS (sp, sd, sq), sd, nqS (sp, sd, sq))) := rfl
        have i0 : (0 : Int) ≤ (k : Int) := by omega
        have i1 : (k : Int) < (ts.length : Int) := by omega
        clear hc htk
        unfold surdV at HNX
        generalize hfl : flS (sp, sd, sq) = f at *
        generalize hNP : npS (sp, sd, sq) = np at *
        generalize hNQ : nqS (sp, sd, sq) = nq at *
        clear hfl hNP hNQ
        by_cases hft : f = t
        · have t1 : (f != t) = false := by simpa using hft
          rw [decide_eq_true hft, Bool.true_and] at HS
          have HF := Lib.hid hft
          clear hft
          cases hok : sdOk (nxS (sp, sd, sq))
          · have HE : Hid (R = none) := by
              have h := HA.out
              rw [HS.out, hok] at h
              exact h.symm
            rw [hok] at HNX
            clear hok HS HA
            go_wp2_with fail
            refine (HNX.out _).mono ?_
            rintro e w3 ⟨rfl, hb3⟩
            have HB3 := Lib.hid (ext_trans HV1.out.below hb3)
            clear x0 x1 x2 cx HV1
            go_wp2
            go_ret2
            rw [HE.out]
            exact RetAl.none_ (ext_alloc HB3.out _)
          · have HN : Hid ((alg (ts.drop (k + 1)) (np, sd, nq)).map ((out ++ [(np, sd, nq)]) ++ ·) = R) := by
              have h := HA.out
              rw [HS.out, hok, if_pos rfl, hNX.out] at h
              unfold Hid
              rw [al_snoc]
              exact h
            have HOK : Hid (sdOk (np, sd, nq) = true) := by rw [← hNX.out]; exact hok
            rw [hok] at HNX
            clear hok HS HA
            go_wp2_with fail
            refine (HNX.out _).mono ?_
            rintro e w3 ⟨rfl, hb3⟩
            have V4 := Lib.hid ((HV1.out.next hb3).next (ext1 w3 (.cells #[.int .i64 np, .int .i64 sd, .int .i64 nq] 46)))
            have N4 := Lib.hid (BoxV.new w3 #[.int .i64 np, .int .i64 sd, .int .i64 nq] 46)
            have HNE : Hid (∀ (v : Value) (n : Nat) (xs : List Value), w3.ownsRow (w.heap.size + 1) 46 3 v n xs → v.ownBlock ≠ some w3.heap.size) := fun v n xs h e => by have := (h.lt _ e).2; omega
            have HO3 := Lib.hid (HV1.out.next hb3).own
            have hown := V4.out.own
            have hlt4 := (HV1.out.next hb3).lt
            clear x0 x1 x2 cx HV1 hb3
            go_wp2_with (at_builtin; refine wpList_append_own _ rfl _ _ 94 rfl (w.heap.size + 1) 46 ti (.agg #[.int .i64 0, .int .i64 0, .int .i64 0]) 3 24 Tryz.underlying94 HI.out hz0 hz1 hz2 rfl (by decide) _ _ _ rfl (hown.alloc _) ⟨w3.heap.size + 1, 0, none⟩ 1 1 [.int .i64 np, .int .i64 sd, .int .i64 nq] rfl rfl ?k1 ?k2 ?k3 ?k4 ?k5 ?_)
            case k1 => intro j u hu; have := news_row (w3.alloc (.cells #[.int .i64 np, .int .i64 sd, .int .i64 nq] 46)) (C := #[.int .i64 np, .int .i64 sd, .int .i64 nq]) 46 _ rfl j u hu; simpa using this
            case k2 => simp [Value.oneCell']
            case k3 => unfold maxLen; omega
            case k4 => omega
            case k5 => first | omega | (simp <;> omega)
            intro v5 w5 hown5 hgrow5 _
            have V5 := Lib.hid (SoB.push (t := (np, sd, nq)) V4.out v5 hown5 hgrow5)
            have N5 := Lib.hid ((N4.out.alloc _).grown hgrow5 (HNE.out _ _ _ HO3.out))
            clear hown5 hgrow5 hown hlt4 V4 N4 HNE HO3
            have n0 := N5.out.at 0 _ rfl
            have n1 := N5.out.at 1 _ rfl
            have n2 := N5.out.at 2 _ rfl
            have x0 := V5.out.box.at 0 _ rfl
            have x1 := V5.out.box.at 1 _ rfl
            have x2 := V5.out.box.at 2 _ rfl
            have f0 := V5.out.box.f 0
            have f1 := V5.out.box.f 1
            have f2 := V5.out.box.f 2
            have V6 := Lib.hid (V5.out.set HOK.out)
            go_wp2
            go_roundw
            case rel => exact ⟨k + 1, (np, sd, nq), out ++ [(np, sd, nq)], by omega, by go_num, by have := HOL.out; simp; omega, HN.out, V6.out⟩
            case measure => simp [intOf]; omega
        · have t1 : (f != t) = true := by simpa using hft
          have HE : Hid (R = none) := by
            have h := HA.out
            rw [HS.out, decide_eq_false hft] at h
            exact h.symm
          clear hft HS HA
          go_wp2_with fail
          refine (HNX.out _).mono ?_
          rintro e w3 ⟨rfl, hb3⟩
          have HB3 := Lib.hid (ext_trans HV1.out.below hb3)
          clear x0 x1 x2 cx HV1
          go_wp2
          go_ret2
          rw [HE.out]
          exact RetAl.none_ (ext_alloc HB3.out _)
      · have HE : Hid (R = some out) := by
          have h := HA.out
          rw [alg_end hlt] at h
          rw [← h]
          simp [Hid]
        have i1 : ¬ (k : Int) < (ts.length : Int) := by omega
        obtain ⟨B, cB, rfl, gw, gc⟩ := own_fullS HV1.out.own
        have GW := Lib.hid gw
        clear gw
        go_wp2
        go_ret2
        rw [HE.out]
        exact ⟨B, cB, rfl, GW.out.more (by omega), gc, HV1.out.below⟩
set_option maxRecDepth 100000 in
set_option maxHeartbeats 3000000 in
theorem l26Along_any (p d q : Int) (A : Option Addr) (c : Nat) (ts : List Int) (w : World) (hx : Rd (Value.int .i64) w w.heap.size A ts) (hl : ts.length ≤ 1000) (hok : sdOk (p, d, q) = true) :
    Calls Tryz.prog 126 #[surdV p d q, .slice A ts.length c] w (RetAl w (along (p, d, q) ts)) := by
  obtain ⟨ti, hi, hz0, hz1, hz2⟩ := info_parts infoSd'
  have HI := Lib.hid hi
  have HX := Lib.hid hx
  clear hi hx
  obtain ⟨R, hR⟩ : ∃ R, along (p, d, q) ts = R := ⟨_, rfl⟩
  have HR : Hid ((alg (ts.drop 0) (p, d, q)).map ([(p, d, q)] ++ ·) = R) := by
    have h : along (p, d, q) ts = if sdOk (p, d, q) = true then (alg ts (p, d, q)).map ((p, d, q) :: ·) else none := rfl
    rw [hok, if_pos rfl, hR] at h
    exact h.symm
  rw [hR]
  have HOK0 := Lib.hid hok
  clear hR hok
  have B0 := Lib.hid (BoxV.new w #[.int .i64 p, .int .i64 d, .int .i64 q] 46)
  have HV0 : Hid (SoB w [(p, d, q)] (p, d, q) (.slice (some ⟨w.heap.size + 1, 0, none⟩) 1 1) ((w.alloc (.cells #[.int .i64 p, .int .i64 d, .int .i64 q] 46)).alloc (.cells #[.int .i64 p, .int .i64 d, .int .i64 q] 46))) := by
    refine ⟨B0.out.alloc _, ?_, ext_alloc (ext1 _ _) _, by simp, HOK0.out⟩
    have h := World.ownsRow_lit (base := w.heap.size + 1) (e := 46) (size := 3) (w.alloc (.cells #[.int .i64 p, .int .i64 d, .int .i64 q] 46)) #[.int .i64 p, .int .i64 d, .int .i64 q] 1 (by simp) (by unfold maxLen; omega) rfl
    simpa [sdL] using h
  unfold surdV
  go_enter Tryz.func126, Tryz.ntmps126
  go_wp2_with fail
  generalize (w.alloc (.cells #[.int .i64 p, .int .i64 d, .int .i64 q] 46)).alloc (.cells #[.int .i64 p, .int .i64 d, .int .i64 q] 46) = W0 at *
  clear B0 HOK0
  go_loopw [7, 6] (fun t v wr => ∃ (k : Nat) (s : Sd) (out : List Sd), k ≤ ts.length ∧ t = .int .i64 k ∧ out.length = k + 1 ∧ Hid ((alg (ts.drop k) s).map (out ++ ·) = R) ∧ Hid (SoB w out s v wr)) (fun t _ _ => ts.length - (intOf t).toNat)
  case atStart => exact ⟨0, (p, d, q), [(p, d, q)], by omega, rfl, rfl, HR.out, HV0.out⟩
  case round =>
    obtain ⟨k, ⟨sp, sd, sq⟩, out, hk, rfl, hol, HA, HV1⟩ := hrel
    have HOL := Lib.hid hol
    have hol1 : out.length ≤ 1001 := by omega
    have hol2 : 0 < out.length := by omega
    clear HR HV0 hol
    by_cases hlt : k < ts.length
    · obtain ⟨b, off, rfl, hb, hc⟩ := HX.out (by omega)
      obtain ⟨t, htk⟩ : ∃ t, ts[k]? = some t := ⟨_, List.getElem?_eq_getElem hlt⟩
      have cx := (HV1.out.below.cell (p := ⟨b, off + k, none⟩) hb).trans (hc k t htk)
      have HCX : Hid (∀ W, Below w.heap.size w W → W.cell? ⟨b, off + k, none⟩ = some (.int .i64 t)) := fun W h => (h.cell (p := ⟨b, off + k, none⟩) hb).trans (hc k t htk)
      have k0 : ∀ x os, (grow (redrawn wr x) os).cell? ⟨w.heap.size, 0, none⟩ = some (.int .i64 sp) := cell_regrown (HV1.out.box.at 0 _ rfl)
      have k1 : ∀ x os, (grow (redrawn wr x) os).cell? ⟨w.heap.size, 1, none⟩ = some (.int .i64 sd) := cell_regrown (HV1.out.box.at 1 _ rfl)
      have k2 : ∀ x os, (grow (redrawn wr x) os).cell? ⟨w.heap.size, 2, none⟩ = some (.int .i64 sq) := cell_regrown (HV1.out.box.at 2 _ rfl)
      have k3 : ∀ x os, (grow (redrawn wr x) os).cell? ⟨b, off + k, none⟩ = some (.int .i64 t) := cell_regrown cx
      have HFL := Lib.hid (fun W : World => l07Floor_any sp sd sq W HV1.out.ok)
      have HNX := Lib.hid (fun W : World => l07Next_any sp sd sq W HV1.out.ok)
      have HS := Lib.hid (alg_step (s := (sp, sd, sq)) htk)
      have i0 : (0 : Int) ≤ (k : Int) := by omega
      have i1 : (k : Int) < (ts.length : Int) := by omega
      clear hc htk cx
      unfold surdV at HFL HNX
      generalize hfl : flS (sp, sd, sq) = f at *
      by_cases hft : f = t
      · subst hft
        have t1 : (f != f) = false := by simp
        rw [decide_eq_true rfl, Bool.true_and] at HS
        clear hfl
        go_wp2_with fail
        refine wp_region_quiet_below (by kernel_rfl) (by kernel_rfl) ?_
        repeat (first | go_big_quiet_step ((with_reducible exact Calls.regrown_of (HFL.out _))) | quiet_step ((with_reducible exact Calls.regrown_of (HFL.out _))))
        refine wpQuiet_nil ?_
        intro _ hw'
        obtain ⟨⟨dq, oq⟩, hw''⟩ := hw'
        subst hw''
        have V2 := Lib.hid (HV1.out.next (below_regrown wr dq oq))
        clear k0 k1 k2 k3 HV1
        generalize grow (redrawn wr dq) oq = w2 at *
        have HK4 : Hid (∀ W', Below w2.heap.size w2 W' → W'.cell? ⟨w.heap.size, 0, none⟩ = some (.int .i64 sp) ∧ W'.cell? ⟨w.heap.size, 1, none⟩ = some (.int .i64 sd) ∧ W'.cell? ⟨w.heap.size, 2, none⟩ = some (.int .i64 sq) ∧ W'.cell? ⟨b, off + k, none⟩ = some (.int .i64 f)) := fun W' hb' => by
          have h := V2.out.next hb'
          exact ⟨h.box.at 0 _ rfl, h.box.at 1 _ rfl, h.box.at 2 _ rfl, HCX.out _ h.below⟩
        obtain ⟨ok, hokE⟩ : ∃ ok, sdOk (nxS (sp, sd, sq)) = ok := ⟨_, rfl⟩
        unfold RetNx at HNX
        rw [hokE] at HNX HS
        have HOE := Lib.hid hokE
        have hokk : Hid (∀ x : Sd, (ok = true → x = nxS (sp, sd, sq)) → ok = true → sdOk x = true) := fun x h1 h2 => by rw [h1 h2, HOE.out]; exact h2
        clear hokE
        go_upto_region 7 with fail
        go_cut [8, 9] (fun u v wx => ∃ (g5 : Nat) (x : Sd), u = .pointer (some ⟨g5, 0, none⟩) ∧ v = .bool ok ∧ BoxV g5 [.int .i64 x.1, .int .i64 x.2.1, .int .i64 x.2.2] wx ∧ Below w2.heap.size w2 wx ∧ w2.heap.size ≤ g5 ∧ Hid (ok = true → x = nxS (sp, sd, sq)))
        case first =>
          go_region_held3 (fun w' => w'.cell? ⟨w.heap.size, 0, none⟩ = some (.int .i64 sp) ∧ w'.cell? ⟨w.heap.size, 1, none⟩ = some (.int .i64 sd) ∧ w'.cell? ⟨w.heap.size, 2, none⟩ = some (.int .i64 sq) ∧ w'.cell? ⟨b, off + k, none⟩ = some (.int .i64 f))
            (first | exact HK4.out _ (by repeat (first | exact Below.refl _ _ | assumption | refine ext_set ?_ (by simp <;> omega) _ | refine ext_alloc ?_ _ | refine ext_drew ?_ | refine ext_trans ?_ (by assumption))))
            (first | (go_at_call 134; (with_reducible refine (HNX.out _).mono ?_); rintro e w5 ⟨⟨t1', t2', t3'⟩, rfl, htt, hb5⟩; have HTT := Lib.hid htt; clear htt; have y5 := hb5.size; (try simp at y5); (try have m0 := (hb5.cell (p := ⟨w2.heap.size, 0, none⟩) (by simp)).trans (cell_one w2.drew _ _ _)); (try have m1 := (hb5.cell (p := ⟨w2.heap.size, 1, none⟩) (by simp)).trans (cell_one w2.drew _ _ _)); (try have m2 := (hb5.cell (p := ⟨w2.heap.size, 2, none⟩) (by simp)).trans (cell_one w2.drew _ _ _)); (try have f0 := (hb5.frozen (p := ⟨w2.heap.size, 0, none⟩) (by simp)).trans (World.frozen?_alloc_at w2.drew _ _ _ rfl)); obtain ⟨hc5, hf5⟩ := bcell hb5))
          all_goals go_wp2_with fail
          all_goals go_meet
          all_goals first
            | exact ⟨w5.heap.size, (t1', t2', t3'), rfl, rfl, BoxV.new w5 #[.int .i64 t1', .int .i64 t2', .int .i64 t3'] _, ext_alloc (ext_trans (ext_drew (Below.refl _ _)) hb5) _, by simpa using y5, HTT.out⟩
            | exact ⟨w2.heap.size, (t1', t2', t3'), rfl, rfl, by simpa using ((((BoxV.new w2.drew #[.int .i64 0, .int .i64 0, .int .i64 0] _).next hb5).set 0 (.int .i64 t1') (by simp)).set 1 (.int .i64 t2') (by simp)).set 2 (.int .i64 t3') (by simp), ext_set (ext_set (ext_set (ext_trans (ext_alloc (ext_drew (Below.refl _ _)) _) hb5) (by simp) _) (by simp) _) (by simp) _, Nat.le_refl _, HTT.out⟩
        case rest =>
          obtain ⟨g5, ⟨x1, x2, x3⟩, rfl, rfl, B5, hb5, hg5, HXX⟩ := hcut
          have V5 := Lib.hid (V2.out.next hb5)
          have hng : w.heap.size ≠ g5 := by have := V2.out.lt; omega
          clear HK4 V2
          cases ok
          · have HE : Hid (R = none) := by
              have h := HA.out
              rw [HS.out] at h
              exact h.symm
            go_wp2
            go_ret2
            rw [HE.out]
            exact RetAl.none_ V5.out.below
          · have hX := HXX.out rfl
            have HOK : Hid (sdOk (x1, x2, x3) = true) := hokk.out _ HXX.out rfl
            have HN : Hid ((alg (ts.drop (k + 1)) (x1, x2, x3)).map ((out ++ [(x1, x2, x3)]) ++ ·) = R) := by
              have h := HA.out
              rw [HS.out, if_pos rfl, ← hX] at h
              unfold Hid
              rw [al_snoc]
              exact h
            clear hX HXX HS HA hokk HOE
            have n0 := B5.at 0 _ rfl
            have n1 := B5.at 1 _ rfl
            have n2 := B5.at 2 _ rfl
            have y0 := V5.out.box.at 0 _ rfl
            have y1 := V5.out.box.at 1 _ rfl
            have y2 := V5.out.box.at 2 _ rfl
            have f0 := V5.out.box.f 0
            have f1 := V5.out.box.f 1
            have f2 := V5.out.box.f 2
            have V6 := Lib.hid (V5.out.set HOK.out)
            have hown := V6.out.own
            have hlt6 := V5.out.lt
            obtain ⟨s0, s1, s2⟩ := set3 y0 y1 y2
            have q0 := V6.out.box.at 0 _ rfl
            have q1 := V6.out.box.at 1 _ rfl
            have q2 := V6.out.box.at 2 _ rfl
            have hsz6 : wc.heap.size = (((wc.setCell ⟨w.heap.size, 0, none⟩ (.int .i64 x1)).setCell ⟨w.heap.size, 1, none⟩ (.int .i64 x2)).setCell ⟨w.heap.size, 2, none⟩ (.int .i64 x3)).heap.size := by simp
            have HSZ := Lib.hid hsz6
            clear hsz6
            go_wp2_with (at_builtin; refine wpList_append_own _ rfl _ _ 94 rfl (w.heap.size + 1) 46 ti (.agg #[.int .i64 0, .int .i64 0, .int .i64 0]) 3 24 Tryz.underlying94 HI.out hz0 hz1 hz2 rfl (by decide) _ _ _ rfl (hown.alloc _) ⟨wc.heap.size, 0, none⟩ 1 1 [.int .i64 x1, .int .i64 x2, .int .i64 x3] rfl rfl ?m1 ?m2 ?m3 ?m4 ?m5 ?_)
            case m2 => simp [Value.oneCell']
            case m3 => unfold maxLen; omega
            case m4 => omega
            case m5 => first | omega | (simp <;> omega)
            intro v7 w7 hown7 hgrow7 _
            have V7 := Lib.hid (SoB.push (t := (x1, x2, x3)) V6.out v7 hown7 hgrow7)
            clear hown7 hgrow7 hown hlt6 V5 V6
            go_wp2
            go_roundw
            case rel => exact ⟨k + 1, (x1, x2, x3), out ++ [(x1, x2, x3)], by omega, by go_num, by have := HOL.out; simp; omega, HN.out, V7.out⟩
            case measure => simp [intOf]; omega
      · have t1 : (f != t) = true := by simpa using hft
        have HE : Hid (R = none) := by
          have h := HA.out
          rw [HS.out, decide_eq_false hft] at h
          exact h.symm
        clear hft HS HA hfl
        go_wp2_with fail
        refine wp_region_quiet_below (by kernel_rfl) (by kernel_rfl) ?_
        repeat (first | go_big_quiet_step ((with_reducible exact Calls.regrown_of (HFL.out _))) | quiet_step ((with_reducible exact Calls.regrown_of (HFL.out _))))
        refine wpQuiet_nil ?_
        intro _ hw'
        obtain ⟨⟨dq, oq⟩, hw''⟩ := hw'
        subst hw''
        have HB3 := Lib.hid (ext_trans HV1.out.below (below_regrown wr dq oq))
        go_wp2
        go_ret2
        rw [HE.out]
        exact RetAl.none_ HB3.out
    · have HE : Hid (R = some out) := by
        have h := HA.out
        rw [alg_end hlt] at h
        rw [← h]
        simp [Hid]
      have i1 : ¬ (k : Int) < (ts.length : Int) := by omega
      obtain ⟨B, cB, rfl, gw, gc⟩ := own_fullS HV1.out.own
      have GW := Lib.hid gw
      clear gw
      go_wp2
      go_ret2
      rw [HE.out]
      exact ⟨B, cB, rfl, GW.out.more (by omega), gc, HV1.out.below⟩
end Go.Proofs.YtpgkellmhlmjeaaGreatDoor
