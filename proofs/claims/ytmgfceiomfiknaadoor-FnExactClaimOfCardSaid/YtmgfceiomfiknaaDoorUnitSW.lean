/- The least unit: the reference's walks. No condition but those that each theorem names. -/
import Derived.Test.YtmgfceiomfiknaaDoorUnitW
import Derived.Deep.RegionWith
import Derived.Deep.RegionLaw
namespace Go.Proofs.YtmgfceiomfiknaaDoor
open Go.RowKit Go.Sort

theorem set4 {w : World} {b : Nat} {x y z u : Value} (h0 : w.cell? ⟨b, 0, none⟩ = some x) (h1 : w.cell? ⟨b, 1, none⟩ = some y) (h2 : w.cell? ⟨b, 2, none⟩ = some z) (h3 : w.cell? ⟨b, 3, none⟩ = some u) :
    (∀ v, (w.setCell ⟨b, 0, none⟩ v).cell? ⟨b, 0, none⟩ = some v) ∧ (∀ u v, ((w.setCell ⟨b, 0, none⟩ u).setCell ⟨b, 1, none⟩ v).cell? ⟨b, 1, none⟩ = some v) ∧ (∀ t u v, (((w.setCell ⟨b, 0, none⟩ t).setCell ⟨b, 1, none⟩ u).setCell ⟨b, 2, none⟩ v).cell? ⟨b, 2, none⟩ = some v) ∧
      (∀ s t u v, ((((w.setCell ⟨b, 0, none⟩ s).setCell ⟨b, 1, none⟩ t).setCell ⟨b, 2, none⟩ u).setCell ⟨b, 3, none⟩ v).cell? ⟨b, 3, none⟩ = some v) := by
  obtain ⟨a1, a2, a3⟩ := set3 h0 h1 h2
  refine ⟨a1, a2, a3, fun s t u v => World.cell?_setCell_same (v := v) _ _ ((World.cell?_setCell_other _ ⟨b, 2, none⟩ ⟨b, 3, none⟩ _ (by simp)).trans ((World.cell?_setCell_other _ ⟨b, 1, none⟩ ⟨b, 3, none⟩ _ (by simp)).trans ((World.cell?_setCell_other _ ⟨b, 0, none⟩ ⟨b, 3, none⟩ _ (by simp)).trans h3)))⟩
set_option maxRecDepth 100000 in
set_option maxHeartbeats 2000000 in
theorem l08Step_any (p q x y t : Int) (w : World) (hp : bil p) (hq : bil q) (hx : bil x) (hy : bil y) (ht : bil t) :
    Calls Tryd.prog 116 #[cvV p q x y, .int .i64 t] w fun e w' => e = .returned (.tuple #[cvV (t * p + x) (t * q + y) p q, .bool (smB (t * p + x) (t * q + y))]) ∧ Below w.heap.size w w' := by
  obtain ⟨t1, t2⟩ := id ht
  obtain ⟨p1, p2⟩ := id hp
  obtain ⟨q1, q2⟩ := id hq
  obtain ⟨x1, x2⟩ := id hx
  obtain ⟨y1, y2⟩ := id hy
  obtain ⟨u1, u2⟩ := mul_bd (x := t) (y := p) (M := 1000000000) (N := 1000000000) (by omega) t2 (by omega) p2 t1 p1
  obtain ⟨u3, u4⟩ := mul_bd (x := t) (y := q) (M := 1000000000) (N := 1000000000) (by omega) t2 (by omega) q2 t1 q1
  have HN := Lib.hid (fun W : World => l03Next_any p q x y t W hp hq hx hy ht)
  have hb1 : -1000000001000000000 ≤ t * p + x ∧ t * p + x ≤ 1000000001000000000 := by omega
  have hb2 : -1000000001000000000 ≤ t * q + y ∧ t * q + y ≤ 1000000001000000000 := by omega
  unfold smB
  clear hp hq hx hy ht u1 u2 u3 u4
  generalize t * p + x = a at *
  generalize t * q + y = b at *
  obtain ⟨a1, a2⟩ := hb1
  obtain ⟨b1, b2⟩ := hb2
  have HA := Lib.hid (fun W : World => l02Size_any a W (by omega) (by omega))
  have HB := Lib.hid (fun W : World => l02Size_any b W (by omega) (by omega))
  generalize (a.natAbs : Int) = na at *
  generalize (b.natAbs : Int) = nb at *
  unfold cvV at *
  cases hd : decide (na ≤ 1000000000)
  all_goals
    first | (rw [Bool.true_and]; have hle : na ≤ 1000000000 := of_decide_eq_true hd; clear hd) | (rw [Bool.false_and]; have hgt : ¬ na ≤ 1000000000 := of_decide_eq_false hd; have hg2 : 1000000000 < na := Int.not_le.mp hgt)
    go_enter Tryd.func116, Tryd.ntmps116
    go_wp2_with fail
    refine (HN.out _).mono ?_
    rintro e w1 ⟨rfl, hb1⟩
    have B2 : BoxV (w.heap.size + 1) [.int .i64 0, .int .i64 0, .int .i64 0, .int .i64 0] w1 := by
      have h := (BoxV.new (w.alloc (.cells #[.int .i64 p, .int .i64 q, .int .i64 x, .int .i64 y] 93)) #[.int .i64 0, .int .i64 0, .int .i64 0, .int .i64 0] 93).next hb1
      simpa using h
    have HBB := Lib.hid (ext_trans (ext_alloc (ext1 w (.cells #[.int .i64 p, .int .i64 q, .int .i64 x, .int .i64 y] 93)) (.cells #[.int .i64 0, .int .i64 0, .int .i64 0, .int .i64 0] 93)) hb1)
    have hg1 := B2.lt
    clear hb1
    go_wp2_with fail
    have B5 := BoxV.new w1 #[.int .i64 a, .int .i64 b, .int .i64 p, .int .i64 q] 93
    have B4 := Lib.hid (B2.alloc (.cells #[.int .i64 a, .int .i64 b, .int .i64 p, .int .i64 q] 93))
    have HB4 := Lib.hid (ext_alloc HBB.out (.cells #[.int .i64 a, .int .i64 b, .int .i64 p, .int .i64 q] 93))
    clear B2 HBB
    generalize w1.alloc (.cells #[.int .i64 a, .int .i64 b, .int .i64 p, .int .i64 q] 93) = W at *
    generalize w1.heap.size = g at *
    have z0 := B5.at 0 _ rfl
    have z1 := B5.at 1 _ rfl
    have z2 := B5.at 2 _ rfl
    have z3 := B5.at 3 _ rfl
    have H3 := Lib.hid (fun (W : World) (hb : BoxV g [.int .i64 a, .int .i64 b, .int .i64 p, .int .i64 q] W) => And.intro (hb.at 0 _ rfl) (And.intro (hb.at 1 _ rfl) (And.intro (hb.at 2 _ rfl) (hb.at 3 _ rfl))))
    have B6 := B4.out
    have y0' := B6.at 0 _ rfl
    have y1' := B6.at 1 _ rfl
    have y2' := B6.at 2 _ rfl
    have y3' := B6.at 3 _ rfl
    have F0 := B6.f 0
    have F1 := B6.f 1
    have F2 := B6.f 2
    have F3 := B6.f 3
    first | go_region_law (first | (go_simp; go_at_call 104; (with_reducible refine (HA.out _).mono ?_); rintro e w' ⟨rfl, rfl⟩) | (go_simp; go_at_call 104; (with_reducible refine (HB.out _).mono ?_); rintro e w' ⟨rfl, rfl⟩) | fail) | fail
    all_goals
      obtain ⟨s0, s1, s2, s3⟩ := set4 y0' y1' y2' y3'
      go_wp2
      first
        | exact bodyPost_ret (v := .tuple #[.agg #[.int .i64 a, .int .i64 b, .int .i64 p, .int .i64 q], .bool _]) (by simp [results, Tryd.results116, go_sem, s0, s1, s2, s3]; done) rfl ⟨rfl, by repeat (first | exact HB4.out | refine ext_set ?_ (by simp) _ | refine ext_drew ?_)⟩
        | exact bodyPost_ret (v := .tuple #[.agg #[.int .i64 a, .int .i64 b, .int .i64 p, .int .i64 q], .bool (decide (nb ≤ 1000000000))]) (by simp [results, Tryd.results116, go_sem, s0, s1, s2, s3]; done) rfl ⟨rfl, by repeat (first | exact HB4.out | refine ext_set ?_ (by simp) _ | refine ext_drew ?_)⟩
end Go.Proofs.YtmgfceiomfiknaaDoor
