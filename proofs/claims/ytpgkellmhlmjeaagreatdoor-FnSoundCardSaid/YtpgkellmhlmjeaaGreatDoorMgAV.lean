/- Parts of the proof, merged: A2pW A2LW RootOfW GcdW ProveRW ProvePW. No condition but those that each theorem names. -/
import Derived.Test.YtpgkellmhlmjeaaGreatDoorMgAU
import Derived.Test.YtpgkellmhlmjeaaGreatDoorMgAH
import Derived.Test.YtpgkellmhlmjeaaGreatDoorMgAB
import Derived.Test.YtpgkellmhlmjeaaGreatDoorMgAD
import Derived.Test.YtpgkellmhlmjeaaGreatDoorMgAG
import Derived.Test.YtpgkellmhlmjeaaGreatDoorMgAJ
namespace Go.Proofs.YtpgkellmhlmjeaaGreatDoor
open Go.RowKit Go.Sort
set_option maxRecDepth 100000 in
set_option maxHeartbeats 4000000 in
theorem a2Period_any (A : Option Addr) (c : Nat) (xs : List Int) (w : World) (L : List Sd) (i : Nat) (hx : RdC w w.heap.size A c xs) (h1 : 6 ≤ xs.length) (h2 : xs.length ≤ 405) (hR : pdR (xs.getD 0 0, xs.getD 1 0, xs.getD 2 0) = some (L, i)) (h3 : (i : Int) = xs.getD 3 0) (h4 : ((L.length - i : Nat) : Int) = xs.getD 4 0) (h5 : L.map flS = xs.drop 5) :
    Calls Tryz.prog 13 #[.slice A xs.length c] w fun e w' => e = .returned (.bool true) ∧ Below w.heap.size w w' := by
  obtain ⟨i0, hi, hz0, hz1, hz2⟩ := info_parts info64
  have HI := Lib.hid hi
  obtain ⟨hrd, hcap, hcm⟩ := hx
  obtain ⟨b, off, rfl, hb, hc⟩ := hrd (by omega)
  have g0 : xs[0]? = some (xs.getD 0 0) := by rw [List.getD_eq_getElem?_getD, List.getElem?_eq_getElem (by omega : 0 < xs.length)]; rfl
  have g1 : xs[1]? = some (xs.getD 1 0) := by rw [List.getD_eq_getElem?_getD, List.getElem?_eq_getElem (by omega : 1 < xs.length)]; rfl
  have g2 : xs[2]? = some (xs.getD 2 0) := by rw [List.getD_eq_getElem?_getD, List.getElem?_eq_getElem (by omega : 2 < xs.length)]; rfl
  have k3 : xs[3]? = some (i : Int) := by rw [h3, List.getD_eq_getElem?_getD, List.getElem?_eq_getElem (by omega : 3 < xs.length)]; rfl
  have k4 : xs[4]? = some ((L.length - i : Nat) : Int) := by rw [h4, List.getD_eq_getElem?_getD, List.getElem?_eq_getElem (by omega : 4 < xs.length)]; rfl
  obtain ⟨_, _, hpc, hi1, hi2⟩ := pdR_facts hR
  have l1 : (headOf (L, i)).length = i := by simp [headOf]; omega
  have l2 : (cycOf (L, i)).length = L.length - i := by simp [cycOf]
  have HCC : Hid (headOf (L, i) ++ cycOf (L, i) = xs.drop 5) := by
    unfold Hid
    rw [← h5]
    show (L.take i).map flS ++ (L.drop i).map flS = L.map flS
    rw [← List.map_append, List.take_append_drop]
  have HP := Lib.hid (fun W : World => sPeriodOf_any (xs.getD 0 0) (xs.getD 1 0) (xs.getD 2 0) W)
  rw [hR, hpc] at HP
  have HX : Hid (∀ W : World, Below w.heap.size w W → ∀ j t, xs[j]? = some t → W.cell? ⟨b, off + j, none⟩ = some (.int .i64 t)) := fun W h j t ht => (h.cell (p := ⟨b, off + j, none⟩) hb).trans (hc j t ht)
  have HS : Hid (∀ (W : World) (A5 : Option Addr) (c5 : Nat), Below w.heap.size w W → Rd (Value.int .i64) W W.heap.size A5 (headOf (L, i) ++ cycOf (L, i)) → Calls Tryz.prog 43 #[.slice A5 (headOf (L, i) ++ cycOf (L, i)).length c5, .slice (some ⟨b, off + 5, none⟩) (xs.length - 5) (c - 5)] W fun e w' => e = .returned (.bool true) ∧ Below W.heap.size W w') := fun W A5 c5 hbW hr => by
    have hd5 : Rd (Value.int .i64) W W.heap.size (some ⟨b, off + 5, none⟩) (xs.drop 5) := fun _ => ⟨b, off + 5, rfl, Nat.lt_of_lt_of_le hb hbW.size, fun j t ht => by
      rw [List.getElem?_drop] at ht
      rw [show off + 5 + j = off + (5 + j) by omega]
      exact HX.out W hbW (5 + j) t ht⟩
    have h := a2Same_any A5 (some ⟨b, off + 5, none⟩) c5 (c - 5) (headOf (L, i) ++ cycOf (L, i)) (xs.drop 5) W hr hd5 (by rw [List.length_append, l1, l2]; unfold maxLen; omega) (by rw [List.length_drop]; unfold maxLen; omega)
    rw [decide_eq_true HCC.out, List.length_drop] at h
    exact h
  have x0 : w.cell? ⟨b, off, none⟩ = _ := hc 0 _ g0
  have x1 := hc 1 _ g1
  have x2 := hc 2 _ g2
  have hlc : (headOf (L, i)).length = i ∧ (cycOf (L, i)).length = L.length - i := ⟨l1, l2⟩
  have HPP : Hid (∀ W : World, Calls Tryz.prog 42 #[surdV (xs.getD 0 0) (xs.getD 1 0) (xs.getD 2 0)] W fun e w' => ∃ A1 c1 A2 c2, e = .returned (.tuple #[.slice A1 (headOf (L, i)).length c1, .slice A2 (cycOf (L, i)).length c2, .int .i64 0]) ∧ Wr (Value.int .i64) w' W.heap.size A1 (headOf (L, i)) ∧ Wr (Value.int .i64) w' W.heap.size A2 (cycOf (L, i)) ∧ Below W.heap.size W w') := fun W => (HP.out W).mono fun e w' ⟨A1, c1, A2, c2, h1, h2, h3, _, h5⟩ => ⟨A1, c1, A2, c2, h1, h2, h3, h5⟩
  generalize xs.getD 0 0 = t0 at *
  generalize xs.getD 1 0 = t1 at *
  generalize xs.getD 2 0 = t2 at *
  rw [← hlc.1] at k3
  rw [← hlc.2] at k4
  have hcy : 0 < (cycOf (L, i)).length := by omega
  have hsum : (headOf (L, i)).length + (cycOf (L, i)).length ≤ 400 := by omega
  generalize headOf (L, i) = hd at *
  generalize cycOf (L, i) = cy at *
  clear hi hrd hc g0 g1 g2 hR hpc hi1 hi2 h3 h4 h5 l1 l2 hlc HP HCC
  have i0' : ((0 : Int) < (xs.length : Int)) := by omega
  have i1' : ((1 : Int) < (xs.length : Int)) := by omega
  have i2' : ((2 : Int) < (xs.length : Int)) := by omega
  have i3' : ((3 : Int) < (xs.length : Int)) := by omega
  have i4' : ((4 : Int) < (xs.length : Int)) := by omega
  have i5' : ((5 : Int) ≤ (xs.length : Int)) := by omega
  have n0 : 0 < xs.length := by omega
  have n1 : 1 < xs.length := by omega
  have n2 : 2 < xs.length := by omega
  unfold surdV at HPP
  go_enter Tryz.func13, Tryz.ntmps13
  go_wp2_with fail
  go_region_held3 (fun w' => w'.cell? ⟨b, off, none⟩ = some (.int .i64 t0) ∧ w'.cell? ⟨b, off + 1, none⟩ = some (.int .i64 t1) ∧ w'.cell? ⟨b, off + 2, none⟩ = some (.int .i64 t2))
    (first | exact ⟨x0, x1, x2⟩ | exact ⟨(hb2.cell (p := ⟨b, off, none⟩) hb).trans x0, (hb2.cell (p := ⟨b, off + 1, none⟩) hb).trans x1, (hb2.cell (p := ⟨b, off + 2, none⟩) hb).trans x2⟩)
    ((go_at_call 42; (with_reducible refine (HPP.out _).mono ?_); rintro e w2 ⟨A1, c1, A2, c2, rfl, hw1, hw2, hb2⟩))
  have HB := Lib.hid (ext_trans (ext_drew (Below.refl w.heap.size w)) hb2)
  obtain ⟨b2, off2, rfl, hb2', hbl2, hcc2, _⟩ := hw2 hcy
  have HC2 := Lib.hid hcc2
  have OW0 : Hid ((w2.alloc (.cells #[] 2)).ownsRow w2.heap.size 2 1 (.slice (some ⟨w2.heap.size, 0, none⟩) 0 0) 0 []) := by
    have h := World.ownsRow_lit (base := w2.heap.size) (e := 2) (size := 1) w2 #[] 0 (by simp) (by simp) rfl
    unfold Hid
    simpa using h
  have HB0 := Lib.hid (ext1 w2 (.cells #[] 2))
  clear hcc2 hw2 hb2 x0 x1 x2
  rcases Nat.eq_zero_or_pos hd.length with h0 | h0
  · have HD0 : Hid (hd = []) := List.eq_nil_of_length_eq_zero h0
    have HRE : Hid (∀ ty, (Builtin.append_ #[24, 24] ty #[.slice (some ⟨w2.heap.size, 0, none⟩) 0 0, .slice A1 hd.length c1]).run Tryz.prog (w2.alloc (.cells #[] 2)) = .ok (.slice (some ⟨w2.heap.size, 0, none⟩) 0 0) (w2.alloc (.cells #[] 2))) := fun ty => by
      rw [h0]
      exact run_append_empty (some ⟨w2.heap.size, 0, none⟩) 0 0 A1 c1 ty (w2.alloc (.cells #[] 2)) (Nat.le_refl _)
    have OW := OW0
    have HB2 := HB0
    clear OW0 HB0 hw1 h0
    go_wp2_with (first | (at_builtin; refine Lib.wpList_append_run (w2.alloc (.cells #[] 2)) rfl _ _ _ _ rfl (.slice (some ⟨w2.heap.size, 0, none⟩) 0 0) (.slice A1 hd.length c1) rfl rfl _ _ (HRE.out _) ?_) | (at_builtin; refine wpList_append_own _ rfl _ _ 24 rfl w2.heap.size 2 i0 (.int .i64 0) 1 8 Tryz.underlying24 HI.out hz0 hz1 hz2 rfl (by decide) _ _ _ rfl OW.out ⟨b2, off2, none⟩ cy.length c2 (cy.map (Value.int .i64)) rfl (by simp) ?c1 ?c2 ?c3 ?c4 ?c5 ?_))
    case c1 =>
      intro j u hu
      rw [List.getElem?_map] at hu
      cases hx : cy[j]? with
      | none => rw [hx] at hu; cases hu
      | some x =>
        rw [hx] at hu
        obtain rfl := Option.some.inj hu
        have hcx := HC2.out j x hx
        have ea : (⟨b2, off2, none⟩ : Addr).add j = ⟨b2, off2 + j, none⟩ := by simp [Addr.add]
        rw [ea]
        exact (HB2.out.cell (p := ⟨b2, off2 + j, none⟩) hbl2).trans hcx
    case c2 => intro u hu; obtain ⟨t, _, rfl⟩ := List.mem_map.1 hu; rfl
    case c3 => unfold maxLen; omega
    case c4 => omega
    case c5 => exact HB2.out.size
    intro v5 w5 hown5 hgrow5 _
    have hown6 : w5.ownsRow w2.heap.size 2 1 v5 (hd ++ cy).length ((hd ++ cy).map (Value.int .i64)) := by
      first
        | (rw [List.length_append]; simpa using hown5)
        | (rw [HD0.out]; simpa using hown5)
    have HE5 := Lib.hid (ext_trans HB.out (below_grown HB2.out OW.out (Nat.le_refl _) hgrow5))
    obtain ⟨A5, c5, rfl, hw5, -⟩ := own_fullC hown6
    have HSM := Lib.hid (HS.out w5 A5 c5 HE5.out hw5.rd)
    have z3 := HX.out w5 HE5.out 3 _ k3
    have z4 := HX.out w5 HE5.out 4 _ k4
    clear hown5 hown6 hgrow5 hw5 HC2 OW HB HB2 HX HS k3 k4
    generalize (hd ++ cy).length = N at *
    go_wp2_with fail
    refine HSM.out.mono ?_
    rintro e w6 ⟨rfl, hb6⟩
    go_wp2
    go_ret
    exact ⟨rfl, ext_trans HE5.out hb6⟩
  · obtain ⟨b1, off1, rfl, hb1', hbl1, hcc1, _⟩ := hw1 h0
    have HC1 := Lib.hid hcc1
    clear hcc1 hw1
    go_wp2_with (at_builtin; refine wpList_append_own _ rfl _ _ 24 rfl w2.heap.size 2 i0 (.int .i64 0) 1 8 Tryz.underlying24 HI.out hz0 hz1 hz2 rfl (by decide) _ _ _ rfl OW0.out ⟨b1, off1, none⟩ hd.length c1 (hd.map (Value.int .i64)) rfl (by simp) ?d1 ?d2 ?d3 ?d4 ?d5 ?_)
    case d1 =>
      intro j u hu
      rw [List.getElem?_map] at hu
      cases hx : hd[j]? with
      | none => rw [hx] at hu; cases hu
      | some x =>
        rw [hx] at hu
        obtain rfl := Option.some.inj hu
        have hcx := HC1.out j x hx
        have ea : (⟨b1, off1, none⟩ : Addr).add j = ⟨b1, off1 + j, none⟩ := by simp [Addr.add]
        rw [ea]
        exact (HB0.out.cell (p := ⟨b1, off1 + j, none⟩) hbl1).trans hcx
    case d2 => intro u hu; obtain ⟨t, _, rfl⟩ := List.mem_map.1 hu; rfl
    case d3 => unfold maxLen; omega
    case d4 => omega
    case d5 => exact HB0.out.size
    intro v3 w3 hown3 hgrow3 _
    have OW : Hid (w3.ownsRow w2.heap.size 2 1 v3 hd.length (hd.map (Value.int .i64))) := by
      unfold Hid
      simpa using hown3
    have HB2 := Lib.hid (below_grown HB0.out OW0.out (Nat.le_refl _) hgrow3)
    clear hown3 hgrow3 HC1 OW0 HB0
    go_wp2_with (at_builtin; refine wpList_append_own _ rfl _ _ 24 rfl w2.heap.size 2 i0 (.int .i64 0) 1 8 Tryz.underlying24 HI.out hz0 hz1 hz2 rfl (by decide) _ _ _ rfl OW.out ⟨b2, off2, none⟩ cy.length c2 (cy.map (Value.int .i64)) rfl (by simp) ?c1 ?c2 ?c3 ?c4 ?c5 ?_)
    case c1 =>
      intro j u hu
      rw [List.getElem?_map] at hu
      cases hx : cy[j]? with
      | none => rw [hx] at hu; cases hu
      | some x =>
        rw [hx] at hu
        obtain rfl := Option.some.inj hu
        have hcx := HC2.out j x hx
        have ea : (⟨b2, off2, none⟩ : Addr).add j = ⟨b2, off2 + j, none⟩ := by simp [Addr.add]
        rw [ea]
        exact (HB2.out.cell (p := ⟨b2, off2 + j, none⟩) hbl2).trans hcx
    case c2 => intro u hu; obtain ⟨t, _, rfl⟩ := List.mem_map.1 hu; rfl
    case c3 => unfold maxLen; omega
    case c4 => omega
    case c5 => exact HB2.out.size
    intro v5 w5 hown5 hgrow5 _
    have hown6 : w5.ownsRow w2.heap.size 2 1 v5 (hd ++ cy).length ((hd ++ cy).map (Value.int .i64)) := by
      first
        | (rw [List.length_append]; simpa using hown5)
        | (rw [HD0.out]; simpa using hown5)
    have HE5 := Lib.hid (ext_trans HB.out (below_grown HB2.out OW.out (Nat.le_refl _) hgrow5))
    obtain ⟨A5, c5, rfl, hw5, -⟩ := own_fullC hown6
    have HSM := Lib.hid (HS.out w5 A5 c5 HE5.out hw5.rd)
    have z3 := HX.out w5 HE5.out 3 _ k3
    have z4 := HX.out w5 HE5.out 4 _ k4
    clear hown5 hown6 hgrow5 hw5 HC2 OW HB HB2 HX HS k3 k4
    generalize (hd ++ cy).length = N at *
    go_wp2_with fail
    refine HSM.out.mono ?_
    rintro e w6 ⟨rfl, hb6⟩
    go_wp2
    go_ret
    exact ⟨rfl, ext_trans HE5.out hb6⟩
end Go.Proofs.YtpgkellmhlmjeaaGreatDoor
namespace Go.Proofs.YtpgkellmhlmjeaaGreatDoor
open Go.RowKit Go.Sort
theorem a2Long_any (A B : Option Addr) (n m c d : Nat) (w : World) :
    Calls Tryz.prog 5 #[.slice A n c, .slice B m d] w fun e w' => e = .returned (.bool (decide (3000 < n ∨ 3000 < m))) ∧ w = w' := by
  by_cases h : 3000 < n
  · have h1 : (3000 : Int) < (n : Int) := by omega
    have hd : decide (3000 < n ∨ 3000 < m) = true := by simp [h]
    rw [hd]
    go_enter Tryz.func5, Tryz.ntmps5
    go_wp2
    go_ret
    exact ⟨rfl, rfl⟩
  · have h1 : ¬ (3000 : Int) < (n : Int) := by omega
    by_cases h2 : 3000 < m
    · have h3 : (3000 : Int) < (m : Int) := by omega
      have hd : decide (3000 < n ∨ 3000 < m) = true := by simp [h2]
      rw [hd]
      go_enter Tryz.func5, Tryz.ntmps5
      go_wp2
      go_ret
      exact ⟨rfl, rfl⟩
    · have h3 : ¬ (3000 : Int) < (m : Int) := by omega
      have hd : decide (3000 < n ∨ 3000 < m) = false := by simp [h, h2]
      rw [hd]
      go_enter Tryz.func5, Tryz.ntmps5
      go_wp2
      go_ret
      exact ⟨rfl, rfl⟩
end Go.Proofs.YtpgkellmhlmjeaaGreatDoor
namespace Go.Proofs.YtpgkellmhlmjeaaGreatDoor
open Go.RowKit Go.Sort
set_option maxHeartbeats 1000000 in
theorem RootOf_any (n : Int) (w : World) (h0 : 0 ≤ n) (h1 : n ≤ 1000000000) :
    Calls Tryz.prog 11 #[.int .i64 n] w fun e w' => e = .returned (.tuple #[.int .i64 (rtI n), .bool (sqB n), .int .i64 0]) ∧ w = w' := by
  obtain ⟨r0, r1⟩ := rtI_bd (M := 1000000000) h0 (by omega) (by omega : n < 1000000000 * 1000000000)
  have r2 := Int.mul_nonneg r0 r0
  have r3 := Int.mul_le_mul (show rtI n ≤ 1000000000 by omega) (show rtI n ≤ 1000000000 by omega) r0 (by omega)
  have HR := Lib.hid (l07Root_any n · h0 (by omega))
  have hs : sqB n = decide (rtI n * rtI n = n) := rfl
  have HI := Lib.hid (l00In_is (n := n) (lo := 0) (hi := 1000000000000000000) (b := true) (inR_true.2 ⟨h0, by omega⟩))
  rw [hs]
  clear hs
  generalize rtI n = r at *
  have w1 : IntKind.i64.wrap (r * r) = r * r := IntWalk.i64_in _ (by omega)
  by_cases h : r * r = n
  · have e1 : (r * r == n) = true := by simpa using h
    rw [decide_eq_true h]
    clear h
    go_enter Tryz.func11, Tryz.ntmps11
    go_wp2_with fail
    refine (HI.out _).mono ?_
    rintro e w' ⟨rfl, rfl⟩
    go_wp2_with fail
    refine (HR.out _).mono ?_
    rintro e w' ⟨rfl, rfl⟩
    go_wp2
    go_ret3
    exact ⟨rfl, rfl⟩
  · have e1 : (r * r == n) = false := by simpa using h
    rw [decide_eq_false h]
    clear h
    go_enter Tryz.func11, Tryz.ntmps11
    go_wp2_with fail
    refine (HI.out _).mono ?_
    rintro e w' ⟨rfl, rfl⟩
    go_wp2_with fail
    refine (HR.out _).mono ?_
    rintro e w' ⟨rfl, rfl⟩
    go_wp2
    go_ret3
    exact ⟨rfl, rfl⟩
end Go.Proofs.YtpgkellmhlmjeaaGreatDoor
namespace Go.Proofs.YtpgkellmhlmjeaaGreatDoor
open Go.RowKit Go.Sort
/-- Euclid's algorithm with its multipliers, as the texts go it. -/
def eucF : Nat → Nat → Nat → Int → Int → Int → Int → Nat × Int × Int
  | 0, r, _, x, y, _, _ => (r, x, y)
  | f + 1, r, s, x, y, u, v => if s = 0 then (r, x, y) else eucF f s (r % s) u v (wrap64 (x - wrap64 ((r : Int) / (s : Int) * u))) (wrap64 (y - wrap64 ((r : Int) / (s : Int) * v)))
theorem eucF_zero (f r : Nat) (x y u v : Int) : eucF f r 0 x y u v = (r, x, y) := by cases f <;> simp [eucF]
def eucS (a b : Int) : Nat × Int × Int := eucF b.natAbs a.natAbs b.natAbs 1 0 0 1
def eucX (a b : Int) : Int := if a < 0 then wrap64 (-(eucS a b).2.1) else (eucS a b).2.1
def eucY (a b : Int) : Int := if b < 0 then wrap64 (-(eucS a b).2.2) else (eucS a b).2.2
def pgC (a b : Int) : Int := if (modB a && modB b) = true then (if a = 0 ∧ b = 0 then 6 else 0) else 2
def pgK (a b : Int) : Int := if pgC a b = 0 then 1 else 0
def pgX (a b : Int) : List Int := if pgC a b = 0 then [a, b, (eucS a b).1, eucX a b, eucY a b] else []
/-- What holds at a round's head. -/
def EU (a b : Int) (r x y s u v : Value) : Prop :=
  ∃ f r' s' : Nat, ∃ x' y' u' v' : Int, s' ≤ f ∧ r' ≤ 1000000000 ∧ s' ≤ 1000000000 ∧ eucF f r' s' x' y' u' v' = eucS a b ∧ r = .int .i64 r' ∧ s = .int .i64 s' ∧ x = .int .i64 x' ∧ y = .int .i64 y' ∧ u = .int .i64 u' ∧ v = .int .i64 v'
set_option maxHeartbeats 1000000 in
theorem l26Euclid_any (a b : Int) (w : World) (a1 : -1000000000 ≤ a) (a2 : a ≤ 1000000000) (b1 : -1000000000 ≤ b) (b2 : b ≤ 1000000000) :
    Calls Tryz.prog 148 #[.int .i64 a, .int .i64 b] w fun e w' => e = .returned (.tuple #[.int .i64 (eucS a b).1, .int .i64 (eucX a b), .int .i64 (eucY a b)]) ∧ w = w' := by
  go_enter Tryz.func148, Tryz.ntmps148
  go_wp2_with (go_at_call 97; refine (l02Size_any _ _ (by omega) (by omega)).mono ?_; rintro e w' ⟨rfl, rfl⟩)
  go_loop [7, 8, 9, 10, 11, 12] (fun r x y s u v => EU a b r x y s u v) (fun _ _ _ s _ _ => (intOf s).toNat)
  case atStart => exact ⟨b.natAbs, a.natAbs, b.natAbs, 1, 0, 0, 1, by omega, by omega, by omega, rfl, rfl, rfl, rfl, rfl, rfl, rfl⟩
  case round =>
    obtain ⟨f, r, s, x, y, u, v, hf, hr, hs, he, rfl, rfl, rfl, rfl, rfl, rfl⟩ := hrel
    by_cases h0 : 0 < s
    · obtain ⟨g, rfl⟩ : ∃ g, f = g + 1 := ⟨f - 1, by omega⟩
      rw [eucF, if_neg (by omega)] at he
      have HE := Lib.hid he
      clear he
      have e1 : ((s : Int) != 0) = true := by rw [bne_iff_ne]; omega
      have e2 : ((s : Int) == 0) = false := by simp; omega
      have hm : r % s < s := Nat.mod_lt _ h0
      have q1 : 0 ≤ (r : Int) / (s : Int) := Int.ediv_nonneg (by omega) (by omega)
      have q2 : (r : Int) / (s : Int) ≤ r := Int.ediv_le_self _ (by omega)
      have q3 : (r : Int) - (r : Int) / (s : Int) * (s : Int) = ((r % s : Nat) : Int) := by
        have := Int.mul_ediv_add_emod (r : Int) (s : Int)
        rw [Int.mul_comm] at this
        rw [Int.natCast_emod]; omega
      have q4 : 0 ≤ (r : Int) / (s : Int) * (s : Int) ∧ (r : Int) / (s : Int) * (s : Int) ≤ r := by
        rw [Int.natCast_emod] at q3
        have := Int.emod_nonneg (r : Int) (b := (s : Int)) (by omega)
        have := Int.mul_nonneg q1 (show 0 ≤ (s : Int) by omega)
        omega
      obtain ⟨q4, q5⟩ := q4
      generalize hq : (r : Int) / (s : Int) = q at *
      generalize hqs : q * (s : Int) = qs at *
      have Q3 := Lib.hid q3
      clear q3
      go_wp2
      go_round
      case rel => exact ⟨g, s, r % s, u, v, _, _, by omega, hs, by omega, HE.out, rfl, val_int Q3.out, rfl, rfl, rfl, rfl⟩
      case measure =>
        have h1 := Q3.out
        simp only [intOf]
        omega
    · obtain rfl : s = 0 := by omega
      rw [eucF_zero] at he
      have f1 : eucX a b = if a < 0 then wrap64 (-x) else x := by rw [eucX, ← he]
      have f2 : eucY a b = if b < 0 then wrap64 (-y) else y := by rw [eucY, ← he]
      have f3 : (eucS a b).1 = r := by rw [← he]
      have F1 := Lib.hid f1
      have F2 := Lib.hid f2
      have F3 := Lib.hid f3
      clear f1 f2 f3 he
      have e1 : (((0 : Nat) : Int) != 0) = false := by simp
      by_cases ha : a < 0
      all_goals
        by_cases hb : b < 0
        all_goals
          go_wp2
          go_ret3
          refine ⟨?_, rfl⟩
          rw [F1.out, F2.out, F3.out]
          first
            | rw [if_pos ha, if_pos hb]; rfl
            | rw [if_pos ha, if_neg (by omega)]; rfl
            | rw [if_neg (by omega), if_pos hb]; rfl
            | rw [if_neg (by omega), if_neg (by omega)]; rfl
theorem sProveGcd_bad (a b : Int) (w : World) (h : ¬ pgC a b = 0) :
    Calls Tryz.prog 113 #[.int .i64 a, .int .i64 b] w (RetCertC w (pgK a b) (pgX a b) (pgC a b)) := by
  have e2 : pgK a b = 0 := by simp [pgK, h]
  have e3 : pgX a b = [] := by simp [pgX, h]
  rw [e2, e3]
  clear e2 e3
  cases ha : modB a
  · have e1 : pgC a b = 2 := by simp [pgC, ha]
    rw [e1]
    clear e1 h
    go_enter Tryz.func113, Tryz.ntmps113
    go_wp2_with (go_at_call 125; refine (l26Num_any _ _).mono ?_; rintro e w' ⟨rfl, rfl⟩)
    exact bodyPost_ret (v := .tuple #[certV 0 none 0 0, .int .i64 2]) (by simp [results, Tryz.results113, go_sem]; done) rfl ⟨none, 0, rfl, fun h => absurd h (by simp), ⟨Nat.le_refl _, Nat.zero_le _⟩, ext_alloc (Below.refl _ _) _⟩
  · cases hb : modB b
    · have e1 : pgC a b = 2 := by simp [pgC, hb]
      rw [e1]
      clear e1 h
      go_enter Tryz.func113, Tryz.ntmps113
      go_wp2_with (go_at_call 125; refine (l26Num_any _ _).mono ?_; rintro e w' ⟨rfl, rfl⟩)
      exact bodyPost_ret (v := .tuple #[certV 0 none 0 0, .int .i64 2]) (by simp [results, Tryz.results113, go_sem]; done) rfl ⟨none, 0, rfl, fun h => absurd h (by simp), ⟨Nat.le_refl _, Nat.zero_le _⟩, ext_alloc (Below.refl _ _) _⟩
    · have h0 : a = 0 ∧ b = 0 := by
        rcases Classical.em (a = 0 ∧ b = 0) with h1 | h1
        · exact h1
        · exact absurd (by simp [pgC, ha, hb, h1]) h
      obtain ⟨rfl, rfl⟩ := h0
      have e1 : pgC 0 0 = 6 := by simp [pgC, ha]
      rw [e1]
      clear e1 h hb
      go_enter Tryz.func113, Tryz.ntmps113
      go_wp2_with (go_at_call 125; refine (l26Num_any _ _).mono ?_; rintro e w' ⟨rfl, rfl⟩)
      exact bodyPost_ret (v := .tuple #[certV 0 none 0 0, .int .i64 6]) (by simp [results, Tryz.results113, go_sem]; done) rfl ⟨none, 0, rfl, fun h => absurd h (by simp), ⟨Nat.le_refl _, Nat.zero_le _⟩, ext_alloc (Below.refl _ _) _⟩
theorem pgC_zero {a b : Int} (h : pgC a b = 0) : modB a = true ∧ modB b = true ∧ ¬ (a = 0 ∧ b = 0) := by
  unfold pgC at h
  split at h
  · rename_i h1
    split at h
    · cases h
    · rename_i h2
      rw [Bool.and_eq_true] at h1
      exact ⟨h1.1, h1.2, h2⟩
  · cases h
set_option maxHeartbeats 1000000 in
theorem sProveGcd_any (a b : Int) (w : World) :
    Calls Tryz.prog 113 #[.int .i64 a, .int .i64 b] w (RetCertC w (pgK a b) (pgX a b) (pgC a b)) := by
  by_cases h : pgC a b = 0
  · obtain ⟨ha, hb, h0⟩ := pgC_zero h
    obtain ⟨a1, a2⟩ := modB_true.1 ha
    obtain ⟨b1, b2⟩ := modB_true.1 hb
    have e2 : pgK a b = 1 := by simp [pgK, h]
    have e3 : pgX a b = [a, b, (eucS a b).1, eucX a b, eucY a b] := by simp [pgX, h]
    rw [h, e2, e3]
    have HE := Lib.hid (l26Euclid_any a b · a1 a2 b1 b2)
    generalize ((eucS a b).1 : Int) = g at *
    generalize eucX a b = x at *
    generalize eucY a b = y at *
    clear h e2 e3
    by_cases ha0 : a = 0
    · have hb0 : (b == 0) = false := by
        rw [beq_eq_false_iff_ne]
        exact fun hh => h0 ⟨ha0, hh⟩
      subst ha0
      clear h0
      go_enter Tryz.func113, Tryz.ntmps113
      go_wp2_with (go_at_call 125; refine (l26Num_any _ _).mono ?_; rintro e w' ⟨rfl, rfl⟩)
      refine (HE.out _).mono ?_
      rintro e w' ⟨rfl, rfl⟩
      go_wp2
      exact bodyPost_ret (v := .tuple #[certV 1 (some ⟨w.heap.size + 1, 0, none⟩) 5 5, .int .i64 0]) (by simp [results, Tryz.results113, go_sem]; done) rfl ⟨_, _, rfl, (Wr.lit' _ (xs := [0, b, g, x, y]) (by simp) rfl).more (by omega), ⟨by simp, by unfold maxLen; omega⟩, ext_alloc (ext_alloc (Below.refl _ _) _) _⟩
    · have ha1 : (a == 0) = false := by simpa using ha0
      clear h0
      go_enter Tryz.func113, Tryz.ntmps113
      go_wp2_with (go_at_call 125; refine (l26Num_any _ _).mono ?_; rintro e w' ⟨rfl, rfl⟩)
      refine (HE.out _).mono ?_
      rintro e w' ⟨rfl, rfl⟩
      go_wp2
      exact bodyPost_ret (v := .tuple #[certV 1 (some ⟨w.heap.size + 1, 0, none⟩) 5 5, .int .i64 0]) (by simp [results, Tryz.results113, go_sem]; done) rfl ⟨_, _, rfl, (Wr.lit' _ (xs := [a, b, g, x, y]) (by simp) rfl).more (by omega), ⟨by simp, by unfold maxLen; omega⟩, ext_alloc (ext_alloc (Below.refl _ _) _) _⟩
  · exact sProveGcd_bad a b w h
end Go.Proofs.YtpgkellmhlmjeaaGreatDoor
namespace Go.Proofs.YtpgkellmhlmjeaaGreatDoor
open Go.RowKit Go.Sort
/-- ProveRoot: the code and the numbers. -/
def prC (n : Int) : Int := if modB n = true then (if n < 0 then 6 else if sqB n = true then 6 else 0) else 2
def prK (n : Int) : Int := if prC n = 0 then 2 else 0
def prX (n : Int) : List Int := if prC n = 0 then [n, rtI n] else []
set_option maxHeartbeats 1000000 in
theorem sProveRoot_any (n : Int) (w : World) : Calls Tryz.prog 114 #[.int .i64 n] w (RetCertC w (prK n) (prX n) (prC n)) := by
  cases hm : modB n
  · have e1 : prC n = 2 := by simp [prC, hm]
    have e2 : prK n = 0 := by simp [prK, e1]
    have e3 : prX n = [] := by simp [prX, e1]
    rw [e1, e2, e3]
    clear e1 e2 e3
    go_enter Tryz.func114, Tryz.ntmps114
    go_wp2_with (go_at_call 125; refine (l26Num_any _ _).mono ?_; rintro e w' ⟨rfl, rfl⟩)
    exact bodyPost_ret (v := .tuple #[certV 0 none 0 0, .int .i64 2]) (by simp [results, Tryz.results114, go_sem]; done) rfl ⟨none, 0, rfl, fun h => absurd h (by simp), ⟨Nat.le_refl _, Nat.zero_le _⟩, ext_alloc (Below.refl _ _) _⟩
  · obtain ⟨n1, n2⟩ := modB_true.1 hm
    by_cases h0 : n < 0
    · have e1 : prC n = 6 := by simp [prC, hm, h0]
      have e2 : prK n = 0 := by simp [prK, e1]
      have e3 : prX n = [] := by simp [prX, e1]
      rw [e1, e2, e3]
      clear e1 e2 e3
      go_enter Tryz.func114, Tryz.ntmps114
      go_wp2_with (go_at_call 125; refine (l26Num_any _ _).mono ?_; rintro e w' ⟨rfl, rfl⟩)
      exact bodyPost_ret (v := .tuple #[certV 0 none 0 0, .int .i64 6]) (by simp [results, Tryz.results114, go_sem]; done) rfl ⟨none, 0, rfl, fun h => absurd h (by simp), ⟨Nat.le_refl _, Nat.zero_le _⟩, ext_alloc (Below.refl _ _) _⟩
    · have HQ := Lib.hid (l07Square_any n · (by omega) (by omega))
      have HR := Lib.hid (l07Root_any n · (by omega) (by omega))
      cases hs : sqB n
      · have e1 : prC n = 0 := by simp [prC, hm, h0, hs]
        have e2 : prK n = 2 := by simp [prK, e1]
        have e3 : prX n = [n, rtI n] := by simp [prX, e1]
        rw [e1, e2, e3]
        clear e1 e2 e3
        rw [hs] at HQ
        clear hs
        generalize rtI n = r at *
        go_enter Tryz.func114, Tryz.ntmps114
        go_wp2_with (first | (go_at_call 125; refine (l26Num_any _ _).mono ?_; rintro e w' ⟨rfl, rfl⟩) | (go_at_call 86; refine (HQ.out _).mono ?_; rintro e w' ⟨rfl, rfl⟩) | (go_at_call 39; refine (HR.out _).mono ?_; rintro e w' ⟨rfl, rfl⟩))
        exact bodyPost_ret (v := .tuple #[certV 2 (some ⟨w.heap.size + 1, 0, none⟩) 2 2, .int .i64 0]) (by simp [results, Tryz.results114, go_sem]; done) rfl ⟨_, _, rfl, (Wr.lit' _ (xs := [n, r]) (by simp) rfl).more (by omega), ⟨by simp, by unfold maxLen; omega⟩, ext_alloc (ext_alloc (Below.refl _ _) _) _⟩
      · have e1 : prC n = 6 := by simp [prC, hm, h0, hs]
        have e2 : prK n = 0 := by simp [prK, e1]
        have e3 : prX n = [] := by simp [prX, e1]
        rw [e1, e2, e3]
        clear e1 e2 e3
        rw [hs] at HQ
        clear hs
        go_enter Tryz.func114, Tryz.ntmps114
        go_wp2_with (first | (go_at_call 125; refine (l26Num_any _ _).mono ?_; rintro e w' ⟨rfl, rfl⟩) | (go_at_call 86; refine (HQ.out _).mono ?_; rintro e w' ⟨rfl, rfl⟩))
        exact bodyPost_ret (v := .tuple #[certV 0 none 0 0, .int .i64 6]) (by simp [results, Tryz.results114, go_sem]; done) rfl ⟨none, 0, rfl, fun h => absurd h (by simp), ⟨Nat.le_refl _, Nat.zero_le _⟩, ext_alloc (Below.refl _ _) _⟩
end Go.Proofs.YtpgkellmhlmjeaaGreatDoor
namespace Go.Proofs.YtpgkellmhlmjeaaGreatDoor
open Go.RowKit Go.Sort Go.Maps Go.WideMaps
def ppX (s : Sd) : List Int := match pdR s with
  | some R => [s.1, s.2.1, s.2.2, ((headOf R).length : Int), ((cycOf R).length : Int)] ++ headOf R ++ cycOf R
  | none => []
def ppK (s : Sd) : Int := if (pdR s).isSome = true then 5 else 0
theorem ppX_none {s : Sd} (h : pdR s = none) : ppX s = [] := by simp [ppX, h]
theorem ppX_some {s : Sd} {R : List Sd × Nat} (h : pdR s = some R) : ppX s = [s.1, s.2.1, s.2.2, ((headOf R).length : Int), ((cycOf R).length : Int)] ++ headOf R ++ cycOf R := by simp [ppX, h]
theorem hc_len {L : List Sd} {i : Nat} (hi : i < L.length) : (headOf (L, i)).length = i ∧ (cycOf (L, i)).length = L.length - i := by
  have e1 : headOf (L, i) = (L.take i).map flS := rfl
  have e2 : cycOf (L, i) = (L.drop i).map flS := rfl
  rw [e1, e2, List.length_map, List.length_map, List.length_take, List.length_drop]
  omega
theorem ppX_some' {s : Sd} {L : List Sd} {i : Nat} (h : pdR s = some (L, i)) : ppX s = [s.1, s.2.1, s.2.2, (i : Int), (L.length : Int) - (i : Int)] ++ L.map flS := by
  obtain ⟨_, _, _, h1, _⟩ := pdR_facts h
  obtain ⟨g1, g2⟩ := hc_len h1
  rw [ppX_some h, g1, g2, List.append_assoc]
  have e : headOf (L, i) ++ cycOf (L, i) = L.map flS := by
    show (L.take i).map flS ++ (L.drop i).map flS = L.map flS
    rw [← List.map_append, List.take_append_drop]
  rw [e, show ((L.length - i : Nat) : Int) = (L.length : Int) - (i : Int) by omega]
set_option maxRecDepth 100000 in
set_option maxHeartbeats 4000000 in
theorem sProvePeriod_any (p d q : Int) (w : World) : Calls Tryz.prog 117 #[surdV p d q] w (RetCertC w (ppK (p, d, q)) (ppX (p, d, q)) (pdC (p, d, q))) := by
  obtain ⟨tj, hj, hy0, hy1, hy2⟩ := info_parts info64
  have HJ := Lib.hid hj
  clear hj
  have HP := Lib.hid (fun W : World => l08Code_any p d q W)
  cases hR : pdR (p, d, q) with
  | none =>
    have e1 : ppK (p, d, q) = 0 := by simp [ppK, hR]
    have e2 := ppX_none hR
    have e3 := pdR_none hR
    rw [e1, e2]
    clear e1 e2 hR
    have t0 : (pdC (p, d, q) != 0) = true := by simpa using e3
    clear e3
    generalize pdC (p, d, q) = cd at *
    unfold surdV at *
    go_enter Tryz.func117, Tryz.ntmps117
    go_wp2_with fail
    refine (HP.out _).mono ?_
    rintro e w1 ⟨g, rfl, hb1, _⟩
    have B2 : BoxV (w.heap.size + 1) [.int .i64 0, .slice none 0 0] w1 := by
      have h := (BoxV.new (w.alloc (.cells #[.int .i64 p, .int .i64 d, .int .i64 q] 46)) #[.int .i64 0, .slice none 0 0] 26).next hb1
      simpa using h
    have HB := Lib.hid (ext_trans (ext_alloc (ext1 w (.cells #[.int .i64 p, .int .i64 d, .int .i64 q] 46)) (.cells #[.int .i64 0, .slice none 0 0] 26)) hb1)
    have y0 := B2.at 0 _ rfl
    have y1 := B2.at 1 _ rfl
    have F0 := B2.f 0
    have F1 := B2.f 1
    obtain ⟨s0, s1⟩ := set_two y0 y1
    clear hb1
    go_wp2
    exact bodyPost_ret (v := .tuple #[certV 0 none 0 0, .int .i64 cd]) (by simp [results, Tryz.results117, go_sem, s0, s1]; done) rfl ⟨none, 0, rfl, fun h => absurd h (by simp), ⟨Nat.le_refl _, Nat.zero_le _⟩, ext_set (ext_set HB.out (by simp) _) (by simp) _⟩
  | some R =>
    obtain ⟨L, i⟩ := R
    obtain ⟨_, _, e3, h1, h2⟩ := pdR_facts hR
    have e1 : ppK (p, d, q) = 5 := by simp [ppK, hR]
    have hX := ppX_some' hR
    have hLl : (L.map flS).length = L.length := List.length_map _
    rw [e1, e3]
    rw [hR, e3] at HP
    clear e1 e3 hR
    simp only at hX
    generalize ppX (p, d, q) = X at *
    have HX := Lib.hid hX
    clear hX
    unfold surdV at *
    go_enter Tryz.func117, Tryz.ntmps117
    go_wp2_with fail
    refine (HP.out _).mono ?_
    rintro e w1 ⟨g, rfl, hb1, hw⟩
    obtain ⟨A1, c1, A2, c2, BW, hgB, g1, g2⟩ := hw L i rfl
    have B1 : BoxV w.heap.size [.int .i64 p, .int .i64 d, .int .i64 q] w1 := ((BoxV.new w #[.int .i64 p, .int .i64 d, .int .i64 q] 46).alloc _).next hb1
    have B2 : BoxV (w.heap.size + 1) [.int .i64 0, .slice none 0 0] w1 := by
      have h := (BoxV.new (w.alloc (.cells #[.int .i64 p, .int .i64 d, .int .i64 q] 46)) #[.int .i64 0, .slice none 0 0] 26).next hb1
      simpa using h
    have HB := Lib.hid (ext_trans (ext_alloc (ext1 w (.cells #[.int .i64 p, .int .i64 d, .int .i64 q] 46)) (.cells #[.int .i64 0, .slice none 0 0] 26)) hb1)
    have hs1 := B2.lt
    obtain ⟨b, off, rfl, hbb0, hbb1, hcc, _⟩ := g2 (by rw [hLl]; omega)
    have HCC := Lib.hid hcc
    clear g1 g2 hb1 hw hcc
    have x0 := B1.at 0 _ rfl
    have x1 := B1.at 1 _ rfl
    have x2 := B1.at 2 _ rfl
    have x3 := BW.at 1 _ rfl
    have x4 := BW.at 2 _ rfl
    have HC := Lib.hid (fun (W : World) (hb : BoxV w.heap.size [.int .i64 p, .int .i64 d, .int .i64 q] W) (hg : BoxV g [.slice A1 L.length c1, .slice (some ⟨b, off, none⟩) L.length c2, .int .i64 (i : Int)] W) => And.intro (hb.at 0 _ rfl) (And.intro (hb.at 1 _ rfl) (And.intro (hb.at 2 _ rfl) (And.intro (hg.at 1 _ rfl) (hg.at 2 _ rfl)))))
    have u1 : IntKind.i64.wrap ((L.length : Int) - (i : Int)) = (L.length : Int) - (i : Int) := IntWalk.i64_in _ (by omega)
    go_wp2_with fail
    go_region_held3 (fun w' => w'.cell? ⟨w.heap.size, 0, none⟩ = some (.int .i64 p) ∧ w'.cell? ⟨w.heap.size, 1, none⟩ = some (.int .i64 d) ∧ w'.cell? ⟨w.heap.size, 2, none⟩ = some (.int .i64 q) ∧ w'.cell? ⟨g, 1, none⟩ = some (.slice (some ⟨b, off, none⟩) L.length c2) ∧ w'.cell? ⟨g, 2, none⟩ = some (.int .i64 (i : Int)))
      (first | exact HC.out _ B1.drew BW.drew | exact HC.out _ (B1.drew.alloc _) (BW.drew.alloc _))
      (fail)
    have hown : Hid (World.ownsRow ((w1.alloc (.cells #[.int .i64 p, .int .i64 d, .int .i64 q, .int .i64 (i : Int), .int .i64 ((L.length : Int) - (i : Int))] 2)).drew) w1.heap.size 2 1 (.slice (some ⟨w1.heap.size, 0, none⟩) 5 5) 5 [.int .i64 p, .int .i64 d, .int .i64 q, .int .i64 (i : Int), .int .i64 ((L.length : Int) - (i : Int))]) := by
      have h := World.ownsRow_lit (base := w1.heap.size) (e := 2) (size := 1) w1 #[.int .i64 p, .int .i64 d, .int .i64 q, .int .i64 (i : Int), .int .i64 ((L.length : Int) - (i : Int))] 5 (Nat.le_refl _) (by unfold maxLen; omega) rfl
      exact h
    have z1 := ((BW.alloc (.cells #[.int .i64 p, .int .i64 d, .int .i64 q, .int .i64 (i : Int), .int .i64 ((L.length : Int) - (i : Int))] 2)).drew).at 1 _ rfl
    have HB3 : Hid (Below w1.heap.size w1 ((w1.alloc (.cells #[.int .i64 p, .int .i64 d, .int .i64 q, .int .i64 (i : Int), .int .i64 ((L.length : Int) - (i : Int))] 2)).drew)) := ext_drew (ext1 _ _)
    have hs3 : w1.heap.size ≤ ((w1.alloc (.cells #[.int .i64 p, .int .i64 d, .int .i64 q, .int .i64 (i : Int), .int .i64 ((L.length : Int) - (i : Int))] 2)).drew).heap.size := HB3.out.size
    have B23 := (B2.alloc (.cells #[.int .i64 p, .int .i64 d, .int .i64 q, .int .i64 (i : Int), .int .i64 ((L.length : Int) - (i : Int))] 2)).drew
    clear HC x0 x1 x2 x3 x4 B1 BW B2
    generalize ((w1.alloc (.cells #[.int .i64 p, .int .i64 d, .int .i64 q, .int .i64 (i : Int), .int .i64 ((L.length : Int) - (i : Int))] 2)).drew) = W3 at *
    generalize hLL : L.map flS = M at *
    have hown' := hown.out
    go_wp2_with (at_builtin; refine wpList_append_own _ rfl _ _ 24 rfl w1.heap.size 2 tj (.int .i64 0) 1 8 Tryz.underlying24 HJ.out hy0 hy1 hy2 rfl (by decide) _ _ _ rfl hown' ⟨b, off, none⟩ L.length c2 (M.map (Value.int .i64)) rfl (by simp; omega) ?c1 ?c2 ?c3 ?c4 ?c5 ?_)
    case c1 =>
      intro j u hu
      rw [List.getElem?_map] at hu
      cases hx : M[j]? with
      | none => rw [hx] at hu; cases hu
      | some x =>
        rw [hx] at hu
        obtain rfl := Option.some.inj hu
        have hcx := HCC.out j x hx
        have ea : (⟨b, off, none⟩ : Addr).add j = ⟨b, off + j, none⟩ := by simp [Addr.add]
        rw [ea]
        exact (HB3.out.cell (p := ⟨b, off + j, none⟩) hbb1).trans hcx
    case c2 => intro u hu; obtain ⟨x, _, rfl⟩ := List.mem_map.1 hu; rfl
    case c3 => unfold maxLen; omega
    case c4 => omega
    case c5 => exact hs3
    intro v' w4 hown3 hgrow _
    have hown4 : w4.ownsRow w1.heap.size 2 1 v' X.length (X.map (Value.int .i64)) := by
      rw [HX.out]
      have e : (([p, d, q, (i : Int), (L.length : Int) - (i : Int)] ++ M).length) = 5 + L.length := by simp; omega
      rw [e]
      simpa using hown3
    obtain ⟨A4, c4, rfl, hw4, hcp4⟩ := own_fullC hown4
    have HW4 := Lib.hid hw4
    have HB4 := Lib.hid (below_grown HB3.out hown.out (Nat.le_refl _) hgrow)
    have B24 := B23.grown hgrow (fun e => by have h : w1.heap.size = w.heap.size + 1 := Option.some.inj e; omega)
    have HBB := Lib.hid (ext_trans HB.out HB4.out)
    clear hown hown' hown3 hown4 hgrow hw4 B23 z1
    have y0 := B24.at 0 _ rfl
    have y1 := B24.at 1 _ rfl
    have F0 := B24.f 0
    have F1 := B24.f 1
    obtain ⟨s0, s1⟩ := set_two y0 y1
    go_wp2
    exact bodyPost_ret (v := .tuple #[certV 5 A4 X.length c4, .int .i64 0]) (by simp [results, Tryz.results117, go_sem, s0, s1]; done) rfl ⟨A4, c4, rfl, (((HW4.out.more hs1).setLow (by simp) _).setLow (by simp) _).more (by omega), hcp4, ext_set (ext_set HBB.out (by simp) _) (by simp) _⟩
end Go.Proofs.YtpgkellmhlmjeaaGreatDoor
