/- Certificates of best approximations: the walks. No condition but those that each theorem names. -/
import Derived.Test.YtpgkellmhlmjeaaGreatDoorMgAO
import Derived.Test.YtpgkellmhlmjeaaGreatDoorMgAK
import Derived.Test.YtpgkellmhlmjeaaGreatDoorMgAH
import Derived.Test.YtpgkellmhlmjeaaGreatDoorMgAB
import Derived.StillTail
import Derived.Deep.RegionHeld3
import Derived.Test.YtpgkellmhlmjeaaGreatDoorMgAG
namespace Go.Proofs.YtpgkellmhlmjeaaGreatDoor
open Go.RowKit Go.Sort Go.Maps Go.WideMaps
/-- The rule of eight numbers. -/
def neG (n d p q A B C E : Int) : Bool := (bestC true [(n, d), (p, q), (A, B), (C, E)] == 0) && (if d ≤ q then frEq p q n d && (frEq A B p q && frEq C E p q)
  else decide (A * d < n * B) && (decide (n * E < C * d) && (decide (C * B - A * E = 1) && (decide (B ≤ q) && (decide (E ≤ q) && (decide (q < B + E) && isB p q A B C E (cmp3 (errV n d A B * E) (errV n d C E * B))))))))
def neB (xs : List Int) : Bool := decide (xs.length = 8) && neG (xs.getD 0 0) (xs.getD 1 0) (xs.getD 2 0) (xs.getD 3 0) (xs.getD 4 0) (xs.getD 5 0) (xs.getD 6 0) (xs.getD 7 0)
theorem bestC_zero4 {n d p q A B C E : Int} (h : bestC true [(n, d), (p, q), (A, B), (C, E)] = 0) : (fracOk n d = true ∧ fracOk p q = true ∧ fracOk A B = true ∧ fracOk C E = true) ∧ (smallFB n d = true ∧ smallFB p q = true ∧ smallFB A B = true ∧ smallFB C E = true) := by
  unfold bestC at h
  split at h
  · rename_i h1
    split at h
    · rename_i h2
      simp at h1 h2
      exact ⟨⟨h1.1, h1.2.1, h1.2.2.1, h1.2.2.2⟩, ⟨h2.1, h2.2.1, h2.2.2.1, h2.2.2.2⟩⟩
    · cases h
  · cases h
theorem mul_bd6 {x y : Int} (hx : -1000000 ≤ x ∧ x ≤ 1000000) (hy : -1000000 ≤ y ∧ y ≤ 1000000) : -1000000000000 ≤ x * y ∧ x * y ≤ 1000000000000 := by
  have := mul_bd (x := x) (y := y) (M := 1000000) (N := 1000000) (by omega) hx.2 (by omega) hy.2 (by omega) (by omega)
  omega
/-- Four boxes in any order of their places. -/
def four4 (B : Nat) (n d p q A E C F : Int) (g3 g4 g5 g6 : Nat) (W : World) : Prop := B2 g3 n d W ∧ B2 g4 p q W ∧ B2 g5 A E W ∧ B2 g6 C F W ∧ (B ≤ g3 ∧ B ≤ g4 ∧ B ≤ g5 ∧ B ≤ g6)
theorem four4.next {B : Nat} {n d p q A E C F : Int} {g3 g4 g5 g6 : Nat} {W W' : World} (h : four4 B n d p q A E C F g3 g4 g5 g6 W) (hb : Below W.heap.size W W') : four4 B n d p q A E C F g3 g4 g5 g6 W' :=
  ⟨h.1.next hb, h.2.1.next hb, h.2.2.1.next hb, h.2.2.2.1.next hb, h.2.2.2.2⟩
theorem lesS (a b c d : Int) (h1 : -1000000000000 ≤ a * d ∧ a * d ≤ 1000000000000) (h3 : -1000000000000 ≤ c * b ∧ c * b ≤ 1000000000000) :
    (a * d < c * b ∧ Hid (∀ W, Calls Tryz.prog 131 #[fracV a b, fracV c d] W fun e w' => e = .returned (.bool true) ∧ Below W.heap.size W w')) ∨
    (¬ a * d < c * b ∧ ∃ v : Int, 0 ≤ v ∧ Hid (∀ W, Calls Tryz.prog 131 #[fracV a b, fracV c d] W fun e w' => e = .returned (.bool false) ∧ Below W.heap.size W w')) := by
  have h := fun W => l02Less_any a b c d W (by omega) (by omega) (by omega) (by omega)
  by_cases hl : a * d < c * b
  · rw [decide_eq_true hl] at h
    exact .inl ⟨hl, h⟩
  · rw [decide_eq_false hl] at h
    exact .inr ⟨hl, 0, by omega, h⟩
set_option maxRecDepth 100000 in
set_option maxHeartbeats 8000000 in
set_option linter.unusedSimpArgs false in
theorem l26Best_any (A0 : Option Addr) (c : Nat) (xs : List Int) (w : World) (hx : Rd (Value.int .i64) w w.heap.size A0 xs) (_ : ∀ x ∈ xs, -1000000000 ≤ x ∧ x ≤ 1000000000) (_ : xs.length ≤ 420) :
    Calls Tryz.prog 84 #[.slice A0 xs.length c] w fun e w' => e = .returned (.bool (neB xs)) ∧ Below w.heap.size w w' := by
  have q1 := Tryz.eqGuardType41
  have q2 := Tryz.stoodInHeld41
  have EB := Lib.hid (Below.refl w.heap.size w)
  have HU : Hid (neB xs = (decide (xs.length = 8) && neG (xs.getD 0 0) (xs.getD 1 0) (xs.getD 2 0) (xs.getD 3 0) (xs.getD 4 0) (xs.getD 5 0) (xs.getD 6 0) (xs.getD 7 0))) := rfl
  by_cases h8 : xs.length = 8
  · rw [decide_eq_true h8, Bool.true_and] at HU
    obtain ⟨b, off, rfl, hbl, hc⟩ := hx (by omega)
    have c0 := hc 0 _ (getD_ofC (show 0 < xs.length by omega))
    have c1 := hc 1 _ (getD_ofC (show 1 < xs.length by omega))
    have c2 := hc 2 _ (getD_ofC (show 2 < xs.length by omega))
    have c3 := hc 3 _ (getD_ofC (show 3 < xs.length by omega))
    have c4 := hc 4 _ (getD_ofC (show 4 < xs.length by omega))
    have c5 := hc 5 _ (getD_ofC (show 5 < xs.length by omega))
    have c6 := hc 6 _ (getD_ofC (show 6 < xs.length by omega))
    have c7 := hc 7 _ (getD_ofC (show 7 < xs.length by omega))
    rw [Nat.add_zero] at c0
    rw [HU.out]
    rw [h8]
    clear HU hc hx
    generalize xs.getD 0 0 = n at *
    generalize xs.getD 1 0 = d at *
    generalize xs.getD 2 0 = p at *
    generalize xs.getD 3 0 = q at *
    generalize xs.getD 4 0 = A at *
    generalize xs.getD 5 0 = B at *
    generalize xs.getD 6 0 = C at *
    generalize xs.getD 7 0 = E at *
    clear h8
    have HCK : Hid (∀ W, Below w.heap.size w W → W.cell? ⟨b, off, none⟩ = some (.int .i64 n) ∧ W.cell? ⟨b, off + 1, none⟩ = some (.int .i64 d) ∧ W.cell? ⟨b, off + 2, none⟩ = some (.int .i64 p) ∧ W.cell? ⟨b, off + 3, none⟩ = some (.int .i64 q) ∧ W.cell? ⟨b, off + 4, none⟩ = some (.int .i64 A) ∧ W.cell? ⟨b, off + 5, none⟩ = some (.int .i64 B) ∧ W.cell? ⟨b, off + 6, none⟩ = some (.int .i64 C) ∧ W.cell? ⟨b, off + 7, none⟩ = some (.int .i64 E)) := fun W hW => ⟨(hW.cell (p := ⟨b, off, none⟩) hbl).trans c0, (hW.cell (p := ⟨b, off + 1, none⟩) hbl).trans c1, (hW.cell (p := ⟨b, off + 2, none⟩) hbl).trans c2, (hW.cell (p := ⟨b, off + 3, none⟩) hbl).trans c3, (hW.cell (p := ⟨b, off + 4, none⟩) hbl).trans c4, (hW.cell (p := ⟨b, off + 5, none⟩) hbl).trans c5, (hW.cell (p := ⟨b, off + 6, none⟩) hbl).trans c6, (hW.cell (p := ⟨b, off + 7, none⟩) hbl).trans c7⟩
    clear c0 c1 c2 c3 c4 c5 c6 c7
    have ED := Lib.hid (ext_drew EB.out)
    have HR : Hid (neG n d p q A B C E = ((bestC true [(n, d), (p, q), (A, B), (C, E)] == 0) && (if d ≤ q then frEq p q n d && (frEq A B p q && frEq C E p q)
      else decide (A * d < n * B) && (decide (n * E < C * d) && (decide (C * B - A * E = 1) && (decide (B ≤ q) && (decide (E ≤ q) && (decide (q < B + E) && isB p q A B C E (cmp3 (errV n d A B * E) (errV n d C E * B)))))))))) := rfl
    generalize neG n d p q A B C E = R at *
    have HK : Hid (∀ (W : World) (g c : Nat), g = W.heap.size → Calls Tryz.prog 44 #[.slice (some ⟨g, 0, none⟩) 4 c] (W.alloc (.cells #[.int .i64 n, .int .i64 d, .int .i64 p, .int .i64 q, .int .i64 A, .int .i64 B, .int .i64 C, .int .i64 E] 41)) fun e w' => e = .returned (.int .i64 (bestC true [(n, d), (p, q), (A, B), (C, E)])) ∧ Below (W.alloc (.cells #[.int .i64 n, .int .i64 d, .int .i64 p, .int .i64 q, .int .i64 A, .int .i64 B, .int .i64 C, .int .i64 E] 41)).heap.size (W.alloc (.cells #[.int .i64 n, .int .i64 d, .int .i64 p, .int .i64 q, .int .i64 A, .int .i64 B, .int .i64 C, .int .i64 E] 41)) w') := fun W g c hg =>
      l18Code_any (some ⟨g, 0, none⟩) c [(n, d), (p, q), (A, B), (C, E)] (W.alloc (.cells #[.int .i64 n, .int .i64 d, .int .i64 p, .int .i64 q, .int .i64 A, .int .i64 B, .int .i64 C, .int .i64 E] 41)) (Wr.lit' W hg rfl).rd (by simp)
    have HZ := Lib.hid (fun h => bestC_zero4 (n := n) (d := d) (p := p) (q := q) (A := A) (B := B) (C := C) (E := E) h)
    go_enter Tryz.func84, Tryz.ntmps84
    go_upto_region 3 with fail
    go_region_held3 (fun W => W.cell? ⟨b, off, none⟩ = some (.int .i64 n) ∧ W.cell? ⟨b, off + 1, none⟩ = some (.int .i64 d) ∧ W.cell? ⟨b, off + 2, none⟩ = some (.int .i64 p) ∧ W.cell? ⟨b, off + 3, none⟩ = some (.int .i64 q) ∧ W.cell? ⟨b, off + 4, none⟩ = some (.int .i64 A) ∧ W.cell? ⟨b, off + 5, none⟩ = some (.int .i64 B) ∧ W.cell? ⟨b, off + 6, none⟩ = some (.int .i64 C) ∧ W.cell? ⟨b, off + 7, none⟩ = some (.int .i64 E))
      (exact HCK.out _ (by repeat (first | exact ED.out | exact EB.out | refine ext_set ?_ (by simp <;> omega) _ | refine ext_alloc ?_ _ | refine ext_drew ?_)))
      (fail)
    go_upto_region 4 with fail
    go_region_held3 (fun W => W.cell? ⟨b, off, none⟩ = some (.int .i64 n) ∧ W.cell? ⟨b, off + 1, none⟩ = some (.int .i64 d) ∧ W.cell? ⟨b, off + 2, none⟩ = some (.int .i64 p) ∧ W.cell? ⟨b, off + 3, none⟩ = some (.int .i64 q) ∧ W.cell? ⟨b, off + 4, none⟩ = some (.int .i64 A) ∧ W.cell? ⟨b, off + 5, none⟩ = some (.int .i64 B) ∧ W.cell? ⟨b, off + 6, none⟩ = some (.int .i64 C) ∧ W.cell? ⟨b, off + 7, none⟩ = some (.int .i64 E))
      (exact HCK.out _ (by repeat (first | exact ED.out | exact EB.out | refine ext_set ?_ (by simp <;> omega) _ | refine ext_alloc ?_ _ | refine ext_drew ?_)))
      (fail)
    go_upto_region 5 with fail
    go_region_held3 (fun W => W.cell? ⟨b, off, none⟩ = some (.int .i64 n) ∧ W.cell? ⟨b, off + 1, none⟩ = some (.int .i64 d) ∧ W.cell? ⟨b, off + 2, none⟩ = some (.int .i64 p) ∧ W.cell? ⟨b, off + 3, none⟩ = some (.int .i64 q) ∧ W.cell? ⟨b, off + 4, none⟩ = some (.int .i64 A) ∧ W.cell? ⟨b, off + 5, none⟩ = some (.int .i64 B) ∧ W.cell? ⟨b, off + 6, none⟩ = some (.int .i64 C) ∧ W.cell? ⟨b, off + 7, none⟩ = some (.int .i64 E))
      (exact HCK.out _ (by repeat (first | exact ED.out | exact EB.out | refine ext_set ?_ (by simp <;> omega) _ | refine ext_alloc ?_ _ | refine ext_drew ?_)))
      (fail)
    go_upto_region 6 with fail
    go_cut [3, 4, 5, 6]
      (fun t3 t4 t5 t6 wx => ∃ g3 g4 g5 g6 : Nat, t3 = .pointer (some ⟨g3, 0, none⟩) ∧ t4 = .pointer (some ⟨g4, 0, none⟩) ∧ t5 = .pointer (some ⟨g5, 0, none⟩) ∧ t6 = .pointer (some ⟨g6, 0, none⟩) ∧ four4 w.heap.size n d p q A B C E g3 g4 g5 g6 wx ∧ Below w.heap.size w wx)
    case first =>
      go_region_held3 (fun W => W.cell? ⟨b, off, none⟩ = some (.int .i64 n) ∧ W.cell? ⟨b, off + 1, none⟩ = some (.int .i64 d) ∧ W.cell? ⟨b, off + 2, none⟩ = some (.int .i64 p) ∧ W.cell? ⟨b, off + 3, none⟩ = some (.int .i64 q) ∧ W.cell? ⟨b, off + 4, none⟩ = some (.int .i64 A) ∧ W.cell? ⟨b, off + 5, none⟩ = some (.int .i64 B) ∧ W.cell? ⟨b, off + 6, none⟩ = some (.int .i64 C) ∧ W.cell? ⟨b, off + 7, none⟩ = some (.int .i64 E))
        (exact HCK.out _ (by repeat (first | exact ED.out | exact EB.out | refine ext_set ?_ (by simp <;> omega) _ | refine ext_alloc ?_ _ | refine ext_drew ?_)))
        (fail)
      all_goals go_wp2_with fail
      all_goals go_meet
      all_goals
        refine ⟨_, _, _, _, rfl, rfl, rfl, rfl, ⟨?_, ?_, ?_, ?_, ?_⟩, ?_⟩
        · repeat (first | refine B2.drew_ ?_ | exact B2.new_at _ _ _ (by simp) | refine B2.far ?_ (by omega) _ | refine B2.set ?_ _ _ | refine B2.next ?_ (ext1 _ _))
        · repeat (first | refine B2.drew_ ?_ | exact B2.new_at _ _ _ (by simp) | refine B2.far ?_ (by omega) _ | refine B2.set ?_ _ _ | refine B2.next ?_ (ext1 _ _))
        · repeat (first | refine B2.drew_ ?_ | exact B2.new_at _ _ _ (by simp) | refine B2.far ?_ (by omega) _ | refine B2.set ?_ _ _ | refine B2.next ?_ (ext1 _ _))
        · repeat (first | refine B2.drew_ ?_ | exact B2.new_at _ _ _ (by simp) | refine B2.far ?_ (by omega) _ | refine B2.set ?_ _ _ | refine B2.next ?_ (ext1 _ _))
        · omega
        · repeat (first | exact Below.refl _ _ | refine ext_set ?_ (by simp <;> omega) _ | refine ext_alloc ?_ _ | refine ext_drew ?_)
    case rest =>
      obtain ⟨g3, g4, g5, g6, rfl, rfl, rfl, rfl, HF, HE⟩ := hcut
      have HF := Lib.hid HF
      have HE := Lib.hid HE
      clear HCK ED
      obtain ⟨⟨x0, x1, _, _⟩, ⟨y0, y1, _, _⟩, ⟨z0, z1, _, _⟩, ⟨u0, u1, _, _⟩, _⟩ := HF.out
      generalize bestC true [(n, d), (p, q), (A, B), (C, E)] = k at *
      by_cases hk : k = 0
      · subst hk
        obtain ⟨⟨k1, k2, k3, k4⟩, s1, s2, s3, s4⟩ := HZ.out rfl
        obtain ⟨n1, n2, d1, d2⟩ := small_bd s1 k1
        obtain ⟨p1, p2, Q1, Q2⟩ := small_bd s2 k2
        obtain ⟨A1, A2, B1, B2'⟩ := small_bd s3 k3
        obtain ⟨C1, C2, E1, E2⟩ := small_bd s4 k4
        rw [show ((0 : Int) == 0) = true from rfl, Bool.true_and] at HR
        clear k1 k2 k3 k4 s1 s2 s3 s4 HZ
        go_wp2_with fail
        refine (HK.out _ _ _ (by simp)).mono ?_
        rintro e w1 ⟨rfl, hb⟩
        have hb := ext_trans (ext1 wc _) hb
        have HE := Lib.hid (ext_trans HE.out hb)
        have HF := Lib.hid (HF.out.next hb)
        clear hb x0 x1 y0 y1 z0 z1 u0 u1
        obtain ⟨⟨x0, x1, _, _⟩, ⟨y0, y1, _, _⟩, ⟨z0, z1, _, _⟩, ⟨u0, u1, _, _⟩, _⟩ := HF.out
        by_cases hd : d ≤ q
        · rw [if_pos hd] at HR
          have hd' : decide (q < d) = false := by simp; omega
          go_wp2
          all_goals
            go_ret
            refine ⟨ret_bool ?_, HE.out⟩
            rw [HR.out, Bool.eq_iff_iff]
            unfold frEq
            simp
            try omega
        · rw [if_neg hd] at HR
          rcases lesS A B n d (mul_bd6 ⟨A1, A2⟩ ⟨by omega, d2⟩) (mul_bd6 ⟨n1, n2⟩ ⟨by omega, B2'⟩) with ⟨h1, HL1⟩ | ⟨h1, v1, hv1, HL1⟩
          · rw [decide_eq_true h1, Bool.true_and] at HR
            clear h1
            go_wp2_with fail
            refine (HL1.out _).mono ?_
            rintro e w2 ⟨rfl, hb⟩
            have HE := Lib.hid (ext_trans HE.out hb)
            have HF := Lib.hid (HF.out.next hb)
            clear hb x0 x1 y0 y1 z0 z1 u0 u1
            obtain ⟨⟨x0, x1, _, _⟩, ⟨y0, y1, _, _⟩, ⟨z0, z1, _, _⟩, ⟨u0, u1, _, _⟩, _⟩ := HF.out
            clear HL1
            rcases lesS n d C E (mul_bd6 ⟨n1, n2⟩ ⟨by omega, E2⟩) (mul_bd6 ⟨C1, C2⟩ ⟨by omega, d2⟩) with ⟨h2, HL2⟩ | ⟨h2, v2, hv2, HL2⟩
            · rw [decide_eq_true h2, Bool.true_and] at HR
              clear h2
              have m1 := mul_bd6 (x := C) (y := B) ⟨C1, C2⟩ ⟨by omega, B2'⟩
              have m2 := mul_bd6 (x := A) (y := E) ⟨A1, A2⟩ ⟨by omega, E2⟩
              obtain ⟨m1, m1'⟩ := m1
              obtain ⟨m2, m2'⟩ := m2
              go_wp2_with fail
              refine (HL2.out _).mono ?_
              rintro e w3 ⟨rfl, hb⟩
              have HE := Lib.hid (ext_trans HE.out hb)
              have HF := Lib.hid (HF.out.next hb)
              clear hb x0 x1 y0 y1 z0 z1 u0 u1
              obtain ⟨⟨x0, x1, _, _⟩, ⟨y0, y1, _, _⟩, ⟨z0, z1, _, _⟩, ⟨u0, u1, _, _⟩, _⟩ := HF.out
              clear HL2
              by_cases h3 : C * B - A * E = 1
              · rw [decide_eq_true h3, Bool.true_and] at HR
                have h3' : (C * B - A * E != 1) = false := by simpa using h3
                have HX := Lib.hid (l18Compare_any n d A B C E · ⟨n1, n2⟩ ⟨by omega, d2⟩ ⟨A1, A2⟩ ⟨by omega, B2'⟩ ⟨C1, C2⟩ ⟨by omega, E2⟩)
                have HN : Hid (¬ (A = C ∧ B = E)) := by
                  rintro ⟨rfl, rfl⟩
                  have := Int.mul_comm A B
                  omega
                generalize cmp3 (errV n d A B * E) (errV n d C E * B) = cv at *
                clear h3
                by_cases h4 : B ≤ q
                · rw [decide_eq_true h4, Bool.true_and] at HR
                  by_cases h5 : E ≤ q
                  · rw [decide_eq_true h5, Bool.true_and] at HR
                    by_cases h6 : q < B + E
                    · rw [decide_eq_true h6, Bool.true_and] at HR
                      go_wp2_with fail
                      refine (HX.out _).mono ?_
                      rintro e w4 ⟨rfl, hb⟩
                      have HE := Lib.hid (ext_trans HE.out hb)
                      have HF := Lib.hid (HF.out.next hb)
                      clear hb x0 x1 y0 y1 z0 z1 u0 u1
                      obtain ⟨⟨x0, x1, _, _⟩, ⟨y0, y1, _, _⟩, ⟨z0, z1, _, _⟩, ⟨u0, u1, _, _⟩, _⟩ := HF.out
                      have hn := HN.out
                      go_wp2
                      all_goals
                        go_ret
                        refine ⟨ret_bool ?_, HE.out⟩
                        rw [HR.out, Bool.eq_iff_iff]
                        unfold isB frEq
                        simp
                        try omega
                    · rw [decide_eq_false h6, Bool.false_and] at HR
                      go_wp2
                      go_ret
                      exact ⟨ret_bool HR.out.symm, HE.out⟩
                  · rw [decide_eq_false h5, Bool.false_and] at HR
                    go_wp2
                    go_ret
                    exact ⟨ret_bool HR.out.symm, HE.out⟩
                · rw [decide_eq_false h4, Bool.false_and] at HR
                  go_wp2
                  go_ret
                  exact ⟨ret_bool HR.out.symm, HE.out⟩
              · rw [decide_eq_false h3, Bool.false_and] at HR
                have h3' : (C * B - A * E != 1) = true := by simpa using h3
                clear h3
                go_wp2
                go_ret
                exact ⟨ret_bool HR.out.symm, HE.out⟩
            · rw [decide_eq_false h2, Bool.false_and] at HR
              clear h2
              go_wp2_with fail
              refine (HL2.out _).mono ?_
              rintro e w3 ⟨rfl, hb⟩
              have HE := Lib.hid (ext_trans HE.out hb)
              have HF := Lib.hid (HF.out.next hb)
              clear hb x0 x1 y0 y1 z0 z1 u0 u1
              obtain ⟨⟨x0, x1, _, _⟩, ⟨y0, y1, _, _⟩, ⟨z0, z1, _, _⟩, ⟨u0, u1, _, _⟩, _⟩ := HF.out
              go_wp2
              go_ret
              exact ⟨ret_bool HR.out.symm, HE.out⟩
          · rw [decide_eq_false h1, Bool.false_and] at HR
            clear h1
            go_wp2_with fail
            refine (HL1.out _).mono ?_
            rintro e w2 ⟨rfl, hb⟩
            have HE := Lib.hid (ext_trans HE.out hb)
            have HF := Lib.hid (HF.out.next hb)
            clear hb x0 x1 y0 y1 z0 z1 u0 u1
            obtain ⟨⟨x0, x1, _, _⟩, ⟨y0, y1, _, _⟩, ⟨z0, z1, _, _⟩, ⟨u0, u1, _, _⟩, _⟩ := HF.out
            go_wp2
            go_ret
            exact ⟨ret_bool HR.out.symm, HE.out⟩
      · have hk' : (k == 0) = false := by simpa using hk
        have hk2 : (k != 0) = true := by simpa using hk
        rw [hk', Bool.false_and] at HR
        clear hk
        go_wp2_with fail
        refine (HK.out _ _ _ (by simp)).mono ?_
        rintro e w1 ⟨rfl, hb⟩
        have hb := ext_trans (ext1 wc _) hb
        have HE := Lib.hid (ext_trans HE.out hb)
        have HF := Lib.hid (HF.out.next hb)
        clear hb x0 x1 y0 y1 z0 z1 u0 u1
        obtain ⟨⟨x0, x1, _, _⟩, ⟨y0, y1, _, _⟩, ⟨z0, z1, _, _⟩, ⟨u0, u1, _, _⟩, _⟩ := HF.out
        go_wp2
        go_ret
        exact ⟨ret_bool HR.out.symm, HE.out⟩
  · rw [decide_eq_false h8, Bool.false_and] at HU
    have e8 : ((xs.length : Int) != 8) = true := by simp; omega
    rw [HU.out]
    go_enter Tryz.func84, Tryz.ntmps84
    go_wp2
    go_ret
    exact ⟨rfl, EB.out⟩
end Go.Proofs.YtpgkellmhlmjeaaGreatDoor
