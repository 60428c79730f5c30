/- The texts of fractions and surds: both walks. No condition but those that each theorem names. -/
import Derived.Test.YtbcikkaoohihhaaGreatDoorMrB
import Derived.Test.YtbcikkaoohihhaaGreatDoorMrA
import Derived.Test.YtbcikkaoohihhaaGreatDoorMrC
namespace Go.Proofs.YtbcikkaoohihhaaGreatDoor
open Go.RowKit Go.Sort

theorem ztF (d0 d1 : ByteArray) (h0 : d0.size ≤ 21) (h1 : d1.size ≤ 21) : (d0 ++ ({ data := #[47] } : ByteArray)).size ≤ 300 ∧ ((d0 ++ ({ data := #[47] } : ByteArray)) ++ d1).size ≤ 300 := by
  have l0 : ({ data := #[47] } : ByteArray).size = 1 := rfl
  simp only [appSize]
  omega
theorem ztS (d0 d1 d2 : ByteArray) (z0 : d0.size ≤ 21) (z1 : d1.size ≤ 21) (z2 : d2.size ≤ 21) : (({ data := #[40] } : ByteArray) ++ d0).size ≤ 300 ∧ ((({ data := #[40] } : ByteArray) ++ d0) ++ ({ data := #[43, 114] } : ByteArray)).size ≤ 300 ∧ (((({ data := #[40] } : ByteArray) ++ d0) ++ ({ data := #[43, 114] } : ByteArray)) ++ d1).size ≤ 300 ∧ ((((({ data := #[40] } : ByteArray) ++ d0) ++ ({ data := #[43, 114] } : ByteArray)) ++ d1) ++ ({ data := #[41, 47] } : ByteArray)).size ≤ 300 ∧ (((((({ data := #[40] } : ByteArray) ++ d0) ++ ({ data := #[43, 114] } : ByteArray)) ++ d1) ++ ({ data := #[41, 47] } : ByteArray)) ++ d2).size ≤ 300 := by
  have l0 : ({ data := #[40] } : ByteArray).size = 1 := rfl
  have l1 : ({ data := #[43, 114] } : ByteArray).size = 2 := rfl
  have l2 : ({ data := #[41, 47] } : ByteArray).size = 2 := rfl
  simp only [appSize]
  omega
theorem l02Text_any (n d : Int) (w : World) (n1 : -1000000000 ≤ n) (n2 : n ≤ 1000000000) (d1 : -1000000000 ≤ d) (d2 : d ≤ 1000000000) :
    Calls Tryz.prog 110 #[fracV n d] w fun e w' => e = .returned (.string (frT n d)) ∧ Below w.heap.size w w' := by
  have HA := Lib.hid (fun W : World => l01Dec_any n W (by omega) (by omega))
  have HB := Lib.hid (fun W : World => l01Dec_any d W (by omega) (by omega))
  have z0 := decB_size (n := n) (by omega) (by omega)
  have z1 := decB_size (n := d) (by omega) (by omega)
  have HE : Hid (frT n d = if d = 1 then decB n else (decB n ++ ({ data := #[47] } : ByteArray)) ++ decB d) := rfl
  generalize frT n d = R at *
  generalize decB n = a0 at *
  generalize decB d = a1 at *
  obtain ⟨t0, t1⟩ := ztF a0 a1 z0 z1
  unfold fracV
  have B0 := BoxV.new w #[.int .i64 n, .int .i64 d] 31
  have E0 := Lib.hid (ext1 w (.cells #[.int .i64 n, .int .i64 d] 31))
  by_cases hd : d = 1
  · subst hd
    simp only [if_true] at HE
    go_enter Tryz.func110, Tryz.ntmps110
    go_wp2_with fail
    refine (HA.out _).mono ?_
    rintro e w1 ⟨rfl, hb1⟩
    go_wp2
    go_ret
    rw [HE.out]
    exact ⟨rfl, ext_trans E0.out hb1⟩
  · have hd' : (d == 1) = false := beq_eq_false_iff_ne.2 hd
    rw [if_neg hd] at HE
    go_enter Tryz.func110, Tryz.ntmps110
    go_wp2_with fail
    generalize w.alloc (.cells #[.int .i64 n, .int .i64 d] 31) = W0 at *
    have k0 : ∀ x os, (grow (redrawn W0 x) os).cell? ⟨w.heap.size, 0, none⟩ = some (.int .i64 n) := cell_regrown (B0.at 0 _ rfl)
    have k1 : ∀ x os, (grow (redrawn W0 x) os).cell? ⟨w.heap.size, 1, none⟩ = some (.int .i64 d) := cell_regrown (B0.at 1 _ rfl)
    refine wp_region_quiet_below (by kernel_rfl) (by kernel_rfl) ?_
    repeat (first | go_big_quiet_step ((first | (with_reducible exact Calls.regrown_of (HA.out _)) | (with_reducible exact Calls.regrown_of (HB.out _)))) | quiet_step ((first | (with_reducible exact Calls.regrown_of (HA.out _)) | (with_reducible exact Calls.regrown_of (HB.out _)))))
    refine wpQuiet_nil ?_
    intro _ hw'
    obtain ⟨⟨dq, oq⟩, hw''⟩ := hw'
    subst hw''
    obtain ⟨w3, hW3⟩ : ∃ Wq, Wq = grow (redrawn W0 dq) oq := ⟨_, rfl⟩
    have hb3 : Below W0.heap.size W0 w3 := by rw [hW3]; exact below_regrown _ _ _
    rw [← hW3]
    clear hW3
    obtain ⟨hc3, hf3⟩ := bcell hb3
    have hy3 := hb3.size
    go_wp2
    go_ret
    rw [HE.out]
    exact ⟨rfl, ext_trans E0.out hb3⟩
theorem l07Txt_any (p d q : Int) (w : World) (p1 : -1000000000 ≤ p) (p2 : p ≤ 1000000000) (d1 : -1000000000 ≤ d) (d2 : d ≤ 1000000000) (q1 : -1000000000 ≤ q) (q2 : q ≤ 1000000000) :
    Calls Tryz.prog 112 #[surdV p d q] w fun e w' => e = .returned (.string (sdT p d q)) ∧ Below w.heap.size w w' := by
  have HA := Lib.hid (fun W : World => l01Dec_any p W (by omega) (by omega))
  have HB := Lib.hid (fun W : World => l01Dec_any d W (by omega) (by omega))
  have HC := Lib.hid (fun W : World => l01Dec_any q W (by omega) (by omega))
  have z0 := decB_size (n := p) (by omega) (by omega)
  have z1 := decB_size (n := d) (by omega) (by omega)
  have z2 := decB_size (n := q) (by omega) (by omega)
  unfold sdT
  generalize decB p = a0 at *
  generalize decB d = a1 at *
  generalize decB q = a2 at *
  obtain ⟨t0, t1, t2, t3, t4⟩ := ztS a0 a1 a2 z0 z1 z2
  have B0 := BoxV.new w #[.int .i64 p, .int .i64 d, .int .i64 q] 34
  have E0 := Lib.hid (ext1 w (.cells #[.int .i64 p, .int .i64 d, .int .i64 q] 34))
  go_enter Tryz.func112, Tryz.ntmps112
  go_wp2_with fail
  generalize w.alloc (.cells #[.int .i64 p, .int .i64 d, .int .i64 q] 34) = W0 at *
  have k0 : ∀ x os, (grow (redrawn W0 x) os).cell? ⟨w.heap.size, 0, none⟩ = some (.int .i64 p) := cell_regrown (B0.at 0 _ rfl)
  have k1 : ∀ x os, (grow (redrawn W0 x) os).cell? ⟨w.heap.size, 1, none⟩ = some (.int .i64 d) := cell_regrown (B0.at 1 _ rfl)
  have k2 : ∀ x os, (grow (redrawn W0 x) os).cell? ⟨w.heap.size, 2, none⟩ = some (.int .i64 q) := cell_regrown (B0.at 2 _ rfl)
  refine wp_region_quiet_below (by kernel_rfl) (by kernel_rfl) ?_
  repeat (first | go_big_quiet_step ((first | (with_reducible exact Calls.regrown_of (HA.out _)) | (with_reducible exact Calls.regrown_of (HB.out _)) | (with_reducible exact Calls.regrown_of (HC.out _)))) | quiet_step ((first | (with_reducible exact Calls.regrown_of (HA.out _)) | (with_reducible exact Calls.regrown_of (HB.out _)) | (with_reducible exact Calls.regrown_of (HC.out _)))))
  refine wpQuiet_nil ?_
  intro _ hw'
  obtain ⟨⟨dq, oq⟩, hw''⟩ := hw'
  subst hw''
  obtain ⟨w3, hW3⟩ : ∃ Wq, Wq = grow (redrawn W0 dq) oq := ⟨_, rfl⟩
  have hb3 : Below W0.heap.size W0 w3 := by rw [hW3]; exact below_regrown _ _ _
  rw [← hW3]
  clear hW3
  obtain ⟨hc3, hf3⟩ := bcell hb3
  have hy3 := hb3.size
  go_wp2
  go_ret
  exact ⟨rfl, ext_trans E0.out hb3⟩
theorem iFractionText_any (n d : Int) (w : World) (hT : Tab10 w) :
    Calls Tryz.prog 58 #[fracV n d] w fun e w' => e = .returned (.string (if fracOk n d = true then frT n d else ⟨#[]⟩)) ∧ Below w.heap.size w w' := by
  have HT : Hid (∀ W, Below w.heap.size w W → Tab10 W) := fun W hb => hT.next hb
  have HV := Lib.hid (fun W : World => ValidFraction_any n d W)
  have B0 := Lib.hid (BoxV.new w #[.int .i64 n, .int .i64 d] 31)
  have E0 := Lib.hid (ext1 w (.cells #[.int .i64 n, .int .i64 d] 31))
  have y0 := B0.out.at 0 _ rfl
  have y1 := B0.out.at 1 _ rfl
  clear hT
  cases hv : fracOk n d
  · rw [hv] at HV
    clear hv
    simp only [Bool.false_eq_true, if_false]
    unfold fracV at *
    go_enter Tryz.func58, Tryz.ntmps58
    go_wp2_with fail
    generalize w.alloc (.cells #[.int .i64 n, .int .i64 d] 31) = W0 at *
    refine (HV.out _).mono ?_
    rintro e w1 ⟨rfl, hb1⟩
    go_wp2
    go_ret
    exact ⟨rfl, ext_trans E0.out hb1⟩
  · obtain ⟨d1, d2, n1, n2, _⟩ := fracOk_true.1 hv
    rw [hv] at HV
    clear hv
    simp only [if_true]
    have HA : Hid (∀ W, Below w.heap.size w W → Calls Tryz.prog 108 #[.int .i64 n] W fun e w' => e = .returned (.string (decB n)) ∧ Below W.heap.size W w') := fun W hb => iDecimal_any n W (by omega) (by omega) (HT.out W hb)
    have HB : Hid (∀ W, Below w.heap.size w W → Calls Tryz.prog 108 #[.int .i64 d] W fun e w' => e = .returned (.string (decB d)) ∧ Below W.heap.size W w') := fun W hb => iDecimal_any d W (by omega) (by omega) (HT.out W hb)
    have z0 := decB_size (n := n) (by omega) (by omega)
    have z1 := decB_size (n := d) (by omega) (by omega)
    have HE : Hid (frT n d = if d = 1 then decB n else (decB n ++ ({ data := #[47] } : ByteArray)) ++ decB d) := rfl
    generalize frT n d = R at *
    generalize decB n = a0 at *
    generalize decB d = a1 at *
    obtain ⟨t0, t1⟩ := ztF a0 a1 z0 z1
    clear HT
    unfold fracV at *
    by_cases hd : d = 1
    · subst hd
      simp only [if_true] at HE
      go_enter Tryz.func58, Tryz.ntmps58
      go_wp2_with fail
      generalize w.alloc (.cells #[.int .i64 n, .int .i64 1] 31) = W0 at *
      refine (HV.out _).mono ?_
      rintro e w1 ⟨rfl, hb1⟩
      have B1 := B0.out.next hb1
      have x0 := B1.at 0 _ rfl
      have x1 := B1.at 1 _ rfl
      have E1 := Lib.hid (ext_trans E0.out hb1)
      go_wp2_with fail
      refine (HA.out _ E1.out).mono ?_
      rintro e w2 ⟨rfl, hb2⟩
      go_wp2
      go_ret
      rw [HE.out]
      exact ⟨rfl, ext_trans E1.out hb2⟩
    · have hd' : (d == 1) = false := beq_eq_false_iff_ne.2 hd
      rw [if_neg hd] at HE
      go_enter Tryz.func58, Tryz.ntmps58
      go_wp2_with fail
      generalize w.alloc (.cells #[.int .i64 n, .int .i64 d] 31) = W0 at *
      refine (HV.out _).mono ?_
      rintro e w1 ⟨rfl, hb1⟩
      have B1 := B0.out.next hb1
      have x0 := B1.at 0 _ rfl
      have x1 := B1.at 1 _ rfl
      have E1 := Lib.hid (ext_trans E0.out hb1)
      have HA2 := Lib.hid (fun x os => HA.out (grow (redrawn w1 x) os) (ext_trans E1.out (below_regrown w1 x os)))
      have HB2 := Lib.hid (fun x os => HB.out (grow (redrawn w1 x) os) (ext_trans E1.out (below_regrown w1 x os)))
      have k0 : ∀ x os, (grow (redrawn w1 x) os).cell? ⟨w.heap.size, 0, none⟩ = some (.int .i64 n) := cell_regrown x0
      have k1 : ∀ x os, (grow (redrawn w1 x) os).cell? ⟨w.heap.size, 1, none⟩ = some (.int .i64 d) := cell_regrown x1
      go_wp2_with fail
      refine wp_region_quiet_below (by kernel_rfl) (by kernel_rfl) ?_
      repeat (first | go_big_quiet_step ((first | (with_reducible exact Calls.regrown_of (HA2.out _ _)) | (with_reducible exact Calls.regrown_of (HB2.out _ _)))) | quiet_step ((first | (with_reducible exact Calls.regrown_of (HA2.out _ _)) | (with_reducible exact Calls.regrown_of (HB2.out _ _)))))
      refine wpQuiet_nil ?_
      intro _ hw'
      obtain ⟨⟨dq, oq⟩, hw''⟩ := hw'
      subst hw''
      obtain ⟨w3, hW3⟩ : ∃ Wq, Wq = grow (redrawn w1 dq) oq := ⟨_, rfl⟩
      have hb3 : Below w1.heap.size w1 w3 := by rw [hW3]; exact below_regrown _ _ _
      rw [← hW3]
      clear hW3
      obtain ⟨hc3, hf3⟩ := bcell hb3
      have hy3 := hb3.size
      go_wp2
      go_ret
      rw [HE.out]
      exact ⟨rfl, ext_trans E1.out hb3⟩
theorem iSurdText_any (p d q : Int) (w : World) (hT : Tab10 w) (hok : surdB p d q = true) :
    Calls Tryz.prog 60 #[surdV p d q] w fun e w' => e = .returned (.string (sdT p d q)) ∧ Below w.heap.size w w' := by
  have HT : Hid (∀ W, Below w.heap.size w W → Tab10 W) := fun W hb => hT.next hb
  have HV := Lib.hid (fun W : World => ValidSurd_any p d q W)
  have B0 := Lib.hid (BoxV.new w #[.int .i64 p, .int .i64 d, .int .i64 q] 34)
  have E0 := Lib.hid (ext1 w (.cells #[.int .i64 p, .int .i64 d, .int .i64 q] 34))
  have y0 := B0.out.at 0 _ rfl
  have y1 := B0.out.at 1 _ rfl
  have y2 := B0.out.at 2 _ rfl
  clear hT
  obtain ⟨⟨d1, d2⟩, _, ⟨p1, p2⟩, ⟨q1, q2⟩, _⟩ := surdB_true.1 hok
  rw [hok] at HV
  clear hok
  have HA : Hid (∀ W, Below w.heap.size w W → Calls Tryz.prog 108 #[.int .i64 p] W fun e w' => e = .returned (.string (decB p)) ∧ Below W.heap.size W w') := fun W hb => iDecimal_any p W (by omega) (by omega) (HT.out W hb)
  have HB : Hid (∀ W, Below w.heap.size w W → Calls Tryz.prog 108 #[.int .i64 d] W fun e w' => e = .returned (.string (decB d)) ∧ Below W.heap.size W w') := fun W hb => iDecimal_any d W (by omega) (by omega) (HT.out W hb)
  have HC : Hid (∀ W, Below w.heap.size w W → Calls Tryz.prog 108 #[.int .i64 q] W fun e w' => e = .returned (.string (decB q)) ∧ Below W.heap.size W w') := fun W hb => iDecimal_any q W (by omega) (by omega) (HT.out W hb)
  have z0 := decB_size (n := p) (by omega) (by omega)
  have z1 := decB_size (n := d) (by omega) (by omega)
  have z2 := decB_size (n := q) (by omega) (by omega)
  unfold sdT
  generalize decB p = a0 at *
  generalize decB d = a1 at *
  generalize decB q = a2 at *
  obtain ⟨t0, t1, t2, t3, t4⟩ := ztS a0 a1 a2 z0 z1 z2
  clear HT
  unfold surdV at *
  go_enter Tryz.func60, Tryz.ntmps60
  go_wp2_with fail
  generalize w.alloc (.cells #[.int .i64 p, .int .i64 d, .int .i64 q] 34) = W0 at *
  refine (HV.out _).mono ?_
  rintro e w1 ⟨rfl, hb1⟩
  have B1 := B0.out.next hb1
  have E1 := Lib.hid (ext_trans E0.out hb1)
  have HA2 := Lib.hid (fun x os => HA.out (grow (redrawn w1 x) os) (ext_trans E1.out (below_regrown w1 x os)))
  have HB2 := Lib.hid (fun x os => HB.out (grow (redrawn w1 x) os) (ext_trans E1.out (below_regrown w1 x os)))
  have HC2 := Lib.hid (fun x os => HC.out (grow (redrawn w1 x) os) (ext_trans E1.out (below_regrown w1 x os)))
  have k0 : ∀ x os, (grow (redrawn w1 x) os).cell? ⟨w.heap.size, 0, none⟩ = some (.int .i64 p) := cell_regrown (B1.at 0 _ rfl)
  have k1 : ∀ x os, (grow (redrawn w1 x) os).cell? ⟨w.heap.size, 1, none⟩ = some (.int .i64 d) := cell_regrown (B1.at 1 _ rfl)
  have k2 : ∀ x os, (grow (redrawn w1 x) os).cell? ⟨w.heap.size, 2, none⟩ = some (.int .i64 q) := cell_regrown (B1.at 2 _ rfl)
  go_wp2_with fail
  refine wp_region_quiet_below (by kernel_rfl) (by kernel_rfl) ?_
  repeat (first | go_big_quiet_step ((first | (with_reducible exact Calls.regrown_of (HA2.out _ _)) | (with_reducible exact Calls.regrown_of (HB2.out _ _)) | (with_reducible exact Calls.regrown_of (HC2.out _ _)))) | quiet_step ((first | (with_reducible exact Calls.regrown_of (HA2.out _ _)) | (with_reducible exact Calls.regrown_of (HB2.out _ _)) | (with_reducible exact Calls.regrown_of (HC2.out _ _)))))
  refine wpQuiet_nil ?_
  intro _ hw'
  obtain ⟨⟨dq, oq⟩, hw''⟩ := hw'
  subst hw''
  obtain ⟨w3, hW3⟩ : ∃ Wq, Wq = grow (redrawn w1 dq) oq := ⟨_, rfl⟩
  have hb3 : Below w1.heap.size w1 w3 := by rw [hW3]; exact below_regrown _ _ _
  rw [← hW3]
  clear hW3
  obtain ⟨hc3, hf3⟩ := bcell hb3
  have hy3 := hb3.size
  go_wp2
  go_ret
  exact ⟨rfl, ext_trans E1.out hb3⟩
end Go.Proofs.YtbcikkaoohihhaaGreatDoor
