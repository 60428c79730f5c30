/- Best approximations of the first kind: the walks. No condition but those that each theorem names. -/
import Derived.Test.YtmgfceiomfiknaaDoorSideS
import Derived.Test.YtmgfceiomfiknaaDoorConvW
namespace Go.Proofs.YtmgfceiomfiknaaDoor
open Go.RowKit Go.Sort

theorem B2.two_ {g : Nat} {x y : Int} {W : World} (h : B2 g x y W) : W.cell? ⟨g, 0, none⟩ = some (.int .i64 x) ∧ W.cell? ⟨g, 1, none⟩ = some (.int .i64 y) := ⟨h.1, h.2.1⟩
theorem B2.drew_ {g : Nat} {x y : Int} {W : World} (h : B2 g x y W) : B2 g x y W.drew := h
/-- A fraction is small. -/
def smallFB (n d : Int) : Bool := inR n (-1000000) 1000000 && decide (d ≤ 1000000)
/-- The code of fractions. -/
def bestC (f : Bool) (ps : List (Int × Int)) : Int := if (ps.all fun p => fracOk p.1 p.2) = true then (if (f && ps.all fun p => smallFB p.1 p.2) = true then 0 else 2) else 1
theorem l18Small_any (n d : Int) (w : World) : Calls Tryd.prog 117 #[fracV n d] w fun e w' => e = .returned (.bool (smallFB n d)) ∧ Below w.heap.size w w' := by
  unfold fracV smallFB
  cases h1 : inR n (-1000000) 1000000
  all_goals
    go_enter Tryd.func117, Tryd.ntmps117
    go_wp2_with (go_at_call 19; (with_reducible refine (l00In_is h1 _).mono ?_); rintro e w' ⟨rfl, rfl⟩)
    go_ret
    exact ⟨rfl, ext1 _ _⟩
theorem smalls_snoc {f : Bool} {ps : List (Int × Int)} {k : Nat} {n d : Int} (h : ps[k]? = some (n, d)) : (f && (ps.take (k + 1)).all fun p => smallFB p.1 p.2) = ((f && (ps.take k).all fun p => smallFB p.1 p.2) && smallFB n d) := by
  rw [List.take_add_one, h]
  simp [Bool.and_assoc]
theorem allT {α : Type} {p : α → Bool} {xs : List α} {k : Nat} {x : α} (h : (xs.take k).all p = true) (hx : xs[k]? = some x) (hp : p x = true) : (xs.take (k + 1)).all p = true := by
  rw [List.take_add_one, hx]; simp_all
theorem allN {α : Type} {p : α → Bool} {xs : List α} {k : Nat} {x : α} (hx : xs[k]? = some x) (hp : p x = false) : xs.all p = false :=
  Bool.eq_false_iff.2 fun h => by have := List.all_eq_true.1 h x (List.mem_of_getElem? hx); simp_all
set_option maxHeartbeats 1000000 in
theorem checkBest_any (f : Bool) (A : Option Addr) (c : Nat) (ps : List (Int × Int)) (w : World) (hx : Rd (Value.int .i64) w w.heap.size A (frL ps)) (hl : ps.length ≤ 1000000) :
    Calls Tryd.prog 94 #[.bool f, .slice A ps.length c] w fun e w' => e = .returned (.int .i64 (bestC f ps)) ∧ Below w.heap.size w w' := by
  generalize hR : bestC f ps = R
  have HR := Lib.hid hR
  have hfl := frL_length ps
  have HX := Lib.hid hx
  clear hR hx
  go_enter Tryd.func94, Tryd.ntmps94
  go_wp2_with fail
  go_loopw [0, 9] (fun b t wr => ∃ (k : Nat) (g : Bool), k ≤ ps.length ∧ t = .int .i64 k ∧ b = .bool g ∧ Hid (g = (f && (ps.take k).all fun p => smallFB p.1 p.2)) ∧ Hid (((ps.take k).all fun p => fracOk p.1 p.2) = true) ∧ Hid (Below w.heap.size w wr)) (fun _ t _ => ps.length - (intOf t).toNat)
  case atStart => exact ⟨0, f, by omega, rfl, rfl, by simp [Hid], by simp [Hid], Below.refl _ _⟩
  case round =>
    obtain ⟨k, g, hk, rfl, rfl, HG, HO, HB⟩ := hrel
    by_cases hlt : k < ps.length
    · obtain ⟨b, off, rfl, hb, hc⟩ := HX.out (by omega)
      obtain ⟨⟨n, d⟩, hpk⟩ : ∃ p, ps[k]? = some p := ⟨_, List.getElem?_eq_getElem hlt⟩
      obtain ⟨g0, g1⟩ := frL_get hpk
      have c0 := (HB.out.cell (p := ⟨b, off + k * 2, none⟩) hb).trans (hc _ _ g0)
      have c1 := hc _ _ g1
      rw [← Nat.add_assoc] at c1
      have c1 := (HB.out.cell (p := ⟨b, off + k * 2 + 1, none⟩) hb).trans c1
      have i0 : (0 : Int) ≤ (k : Int) := by omega
      have i1 : (k : Int) < (ps.length : Int) := by omega
      have HP := Lib.hid hpk
      clear hc hpk g0 g1 hfl
      cases hok : fracOk n d
      · have HE : Hid (R = 1) := by
          have h := HR.out
          rw [bestC, if_neg] at h
          · exact h.symm
          · rw [allN HP.out (by exact hok)]; exact Bool.false_ne_true
        have HV : Hid (∀ W, Calls Tryd.prog 54 #[fracV n d] W fun e w' => e = .returned (.bool false) ∧ Below W.heap.size W w') := fun W => by
          have := ValidFraction_any n d W
          rwa [hok] at this
        clear hok
        go_wp2_with fail
        refine (HV.out _).mono ?_
        rintro e w1 ⟨rfl, hb1⟩
        go_wp2
        go_ret
        exact ⟨ret_int HE.out.symm, HB.out.trans ((ext_trans (ext1 _ _) hb1).mono HB.out.size)⟩
      · have HV : Hid (∀ W, Calls Tryd.prog 54 #[fracV n d] W fun e w' => e = .returned (.bool true) ∧ Below W.heap.size W w') := fun W => by
          have := ValidFraction_any n d W
          rwa [hok] at this
        have HO2 : Hid (((ps.take (k + 1)).all fun p => fracOk p.1 p.2) = true) := allT HO.out HP.out hok
        clear hok
        have B0 := Lib.hid (B2.new wr n d 57)
        go_wp2_with fail
        refine (HV.out _).mono ?_
        rintro e w1 ⟨rfl, hb1⟩
        have HB1 := Lib.hid (HB.out.trans ((ext_trans (ext1 _ _) hb1).mono HB.out.size))
        obtain ⟨r0, r1, _, _⟩ := B0.out.next hb1
        clear c0 c1 hb1
        cases g
        · go_wp2
          go_roundw
          case rel => exact ⟨k + 1, false, by omega, by go_num, rfl, by unfold Hid; rw [smalls_snoc HP.out, ← HG.out]; simp, HO2.out, HB1.out⟩
          case measure => simp [intOf]; omega
        · cases h1 : inR n (-1000000) 1000000
          all_goals
            go_wp2_with (go_at_call 43; (with_reducible refine (within_is h1 _).mono ?_); rintro e w' ⟨rfl, rfl⟩)
            go_roundw
            case rel => exact ⟨k + 1, _, by omega, by go_num, rfl, by unfold Hid; rw [smalls_snoc HP.out, ← HG.out]; simp [smallFB, h1], HO2.out, HB1.out⟩
            case measure => simp [intOf]; omega
    · have HE : Hid (R = if g = true then 0 else 2) := by
        have h := HR.out
        have h2 := HO.out
        have h3 := HG.out
        rw [List.take_of_length_le (by omega)] at h2 h3
        rw [bestC, if_pos h2, ← h3] at h
        exact h.symm
      cases g
      all_goals
        go_wp2
        go_ret
        exact ⟨ret_int HE.out.symm, HB.out⟩
set_option maxHeartbeats 1000000 in
theorem l18Code_any (A : Option Addr) (c : Nat) (ps : List (Int × Int)) (w : World) (hx : Rd (Value.int .i64) w w.heap.size A (frL ps)) (hl : ps.length ≤ 1000000) :
    Calls Tryd.prog 89 #[.slice A ps.length c] w fun e w' => e = .returned (.int .i64 (bestC true ps)) ∧ Below w.heap.size w w' := by
  generalize hR : bestC true ps = R
  have HR := Lib.hid hR
  have hfl := frL_length ps
  have HX := Lib.hid hx
  clear hR hx
  go_enter Tryd.func89, Tryd.ntmps89
  go_wp2_with fail
  go_loopw [3] (fun t wr => ∃ (k : Nat), k ≤ ps.length ∧ t = .int .i64 k ∧ Hid (((ps.take k).all fun p => fracOk p.1 p.2) = true) ∧ Hid (Below w.heap.size w wr)) (fun t _ => ps.length - (intOf t).toNat)
  case atStart => exact ⟨0, by omega, rfl, by simp [Hid], Below.refl _ _⟩
  case round =>
    obtain ⟨k, hk, rfl, HO, HB⟩ := hrel
    by_cases hlt : k < ps.length
    · obtain ⟨b, off, rfl, hb, hc⟩ := HX.out (by omega)
      obtain ⟨⟨n, d⟩, hpk⟩ : ∃ p, ps[k]? = some p := ⟨_, List.getElem?_eq_getElem hlt⟩
      obtain ⟨g0, g1⟩ := frL_get hpk
      have c0 := (HB.out.cell (p := ⟨b, off + k * 2, none⟩) hb).trans (hc _ _ g0)
      have c1 := hc _ _ g1
      rw [← Nat.add_assoc] at c1
      have c1 := (HB.out.cell (p := ⟨b, off + k * 2 + 1, none⟩) hb).trans c1
      have i0 : (0 : Int) ≤ (k : Int) := by omega
      have i1 : (k : Int) < (ps.length : Int) := by omega
      have HP := Lib.hid hpk
      clear hc hpk g0 g1 hfl
      cases hok : fracOk n d
      · have HE : Hid (R = 1) := by
          have h := HR.out
          rw [bestC, if_neg] at h
          · exact h.symm
          · rw [allN HP.out (by exact hok)]; exact Bool.false_ne_true
        have HV : Hid (∀ W, Calls Tryd.prog 75 #[fracV n d] W fun e w' => e = .returned (.bool false) ∧ Below W.heap.size W w') := fun W => by
          have := l02Ok_any n d W
          rwa [hok] at this
        clear hok
        go_wp2_with fail
        refine (HV.out _).mono ?_
        rintro e w1 ⟨rfl, hb1⟩
        go_wp2
        go_ret
        exact ⟨ret_int HE.out.symm, HB.out.trans (hb1.mono HB.out.size)⟩
      · have HV : Hid (∀ W, Calls Tryd.prog 75 #[fracV n d] W fun e w' => e = .returned (.bool true) ∧ Below W.heap.size W w') := fun W => by
          have := l02Ok_any n d W
          rwa [hok] at this
        have HO2 : Hid (((ps.take (k + 1)).all fun p => fracOk p.1 p.2) = true) := allT HO.out HP.out hok
        clear hok
        go_wp2_with fail
        refine (HV.out _).mono ?_
        rintro e w1 ⟨rfl, hb1⟩
        go_wp2
        go_roundw
        case rel => exact ⟨k + 1, by omega, by go_num, HO2.out, HB.out.trans (hb1.mono HB.out.size)⟩
        case measure => simp [intOf]; omega
    · have HO1 : Hid ((ps.all fun p => fracOk p.1 p.2) = true) := by
        have h2 := HO.out
        rwa [List.take_of_length_le (by omega)] at h2
      clear HO
      obtain ⟨wo, rfl⟩ : ∃ wo : World, wo = wr := ⟨_, rfl⟩
      go_wp2_with fail
      go_loopw [4] (fun t wr => ∃ (k : Nat), k ≤ ps.length ∧ t = .int .i64 k ∧ Hid (((ps.take k).all fun p => smallFB p.1 p.2) = true) ∧ Hid (Below w.heap.size w wr)) (fun t _ => ps.length - (intOf t).toNat)
      case atStart => exact ⟨0, by omega, rfl, by simp [Hid], HB.out⟩
      case round =>
        obtain ⟨k, hk, rfl, HO, HB⟩ := hrel
        by_cases hlt : k < ps.length
        · obtain ⟨b, off, rfl, hb, hc⟩ := HX.out (by omega)
          obtain ⟨⟨n, d⟩, hpk⟩ : ∃ p, ps[k]? = some p := ⟨_, List.getElem?_eq_getElem hlt⟩
          obtain ⟨g0, g1⟩ := frL_get hpk
          have c0 := (HB.out.cell (p := ⟨b, off + k * 2, none⟩) hb).trans (hc _ _ g0)
          have c1 := hc _ _ g1
          rw [← Nat.add_assoc] at c1
          have c1 := (HB.out.cell (p := ⟨b, off + k * 2 + 1, none⟩) hb).trans c1
          have i0 : (0 : Int) ≤ (k : Int) := by omega
          have i1 : (k : Int) < (ps.length : Int) := by omega
          have HP := Lib.hid hpk
          clear hc hpk g0 g1 hfl
          cases hok : smallFB n d
          · have HE : Hid (R = 2) := by
              have h := HR.out
              rw [bestC, if_pos HO1.out, if_neg] at h
              · exact h.symm
              · rw [allN HP.out (by exact hok)]; simp
            have HV : Hid (∀ W, Calls Tryd.prog 117 #[fracV n d] W fun e w' => e = .returned (.bool false) ∧ Below W.heap.size W w') := fun W => by
              have := l18Small_any n d W
              rwa [hok] at this
            clear hok
            go_wp2_with fail
            refine (HV.out _).mono ?_
            rintro e w1 ⟨rfl, hb1⟩
            go_wp2
            go_ret
            exact ⟨ret_int HE.out.symm, HB.out.trans (hb1.mono HB.out.size)⟩
          · have HV : Hid (∀ W, Calls Tryd.prog 117 #[fracV n d] W fun e w' => e = .returned (.bool true) ∧ Below W.heap.size W w') := fun W => by
              have := l18Small_any n d W
              rwa [hok] at this
            have HO2 : Hid (((ps.take (k + 1)).all fun p => smallFB p.1 p.2) = true) := allT HO.out HP.out hok
            clear hok
            go_wp2_with fail
            refine (HV.out _).mono ?_
            rintro e w1 ⟨rfl, hb1⟩
            go_wp2
            go_roundw
            case rel => exact ⟨k + 1, by omega, by go_num, HO2.out, HB.out.trans (hb1.mono HB.out.size)⟩
            case measure => simp [intOf]; omega
        · have HE : Hid (R = 0) := by
            have h := HR.out
            have h2 := HO.out
            rw [List.take_of_length_le (by omega)] at h2
            rw [bestC, if_pos HO1.out, if_pos (by rw [h2]; rfl)] at h
            exact h.symm
          go_wp2
          go_ret
          exact ⟨ret_int HE.out.symm, HB.out⟩
end Go.Proofs.YtmgfceiomfiknaaDoor
