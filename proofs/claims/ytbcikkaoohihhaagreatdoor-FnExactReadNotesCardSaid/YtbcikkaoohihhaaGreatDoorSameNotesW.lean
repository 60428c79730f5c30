/- SameNotes: both walks. No condition but those that each theorem names. -/
import Derived.Test.YtbcikkaoohihhaaGreatDoorMrB
import Derived.Test.YtbcikkaoohihhaaGreatDoorSameDeskW
namespace Go.Proofs.YtbcikkaoohihhaaGreatDoor
open Go.RowKit Go.Sort

def ntEq (x y : Nt) : Bool := (x.name.toList == y.name.toList) && ((x.kind == y.kind) && ((x.num == y.num) && ((x.den == y.den) && (decide (x.terms = y.terms) && ((x.sp == y.sp) && ((x.sd == y.sd) && (x.sq == y.sq)))))))
def sameNt : List Nt → List Nt → Bool
  | [], [] => true
  | x :: xs, y :: ys => ntEq x y && sameNt xs ys
  | _, _ => false
theorem sameNt_step {xs ys : List Nt} {k : Nat} {x y : Nt} (hx : xs[k]? = some x) (hy : ys[k]? = some y) : sameNt (xs.drop k) (ys.drop k) = (ntEq x y && sameNt (xs.drop (k + 1)) (ys.drop (k + 1))) := by
  rw [drop_cons hx, drop_cons hy]; rfl
theorem sameNt_end {xs ys : List Nt} {k : Nat} (hx : xs.length ≤ k) (hy : ys.length ≤ k) : sameNt (xs.drop k) (ys.drop k) = true := by
  rw [List.drop_eq_nil_of_le hx, List.drop_eq_nil_of_le hy]; rfl
theorem sameNt_len : ∀ {xs ys : List Nt}, ¬ xs.length = ys.length → sameNt xs ys = false
  | [], [], h => absurd rfl h
  | [], _ :: _, _ => rfl
  | _ :: _, [], _ => rfl
  | x :: xs, y :: ys, h => by
    show (ntEq x y && sameNt xs ys) = false
    rw [sameNt_len (xs := xs) (ys := ys) (fun e => h (by simp [e])), Bool.and_false]
/-- Which part is the first to differ. -/
theorem ntEq_ways (x y : Nt) :
    ((x.name.toList == y.name.toList) = false ∧ ntEq x y = false) ∨
    ((x.name.toList == y.name.toList) = true ∧ (x.kind == y.kind) = false ∧ ntEq x y = false) ∨
    ((x.name.toList == y.name.toList) = true ∧ (x.kind == y.kind) = true ∧ (x.num == y.num) = false ∧ ntEq x y = false) ∨
    ((x.name.toList == y.name.toList) = true ∧ (x.kind == y.kind) = true ∧ (x.num == y.num) = true ∧ (x.den == y.den) = false ∧ ntEq x y = false) ∨
    ((x.name.toList == y.name.toList) = true ∧ (x.kind == y.kind) = true ∧ (x.num == y.num) = true ∧ (x.den == y.den) = true ∧ decide (x.terms = y.terms) = false ∧ ntEq x y = false) ∨
    ((x.name.toList == y.name.toList) = true ∧ (x.kind == y.kind) = true ∧ (x.num == y.num) = true ∧ (x.den == y.den) = true ∧ decide (x.terms = y.terms) = true ∧ (x.sp == y.sp) = false ∧ ntEq x y = false) ∨
    ((x.name.toList == y.name.toList) = true ∧ (x.kind == y.kind) = true ∧ (x.num == y.num) = true ∧ (x.den == y.den) = true ∧ decide (x.terms = y.terms) = true ∧ (x.sp == y.sp) = true ∧ (x.sd == y.sd) = false ∧ ntEq x y = false) ∨
    ((x.name.toList == y.name.toList) = true ∧ (x.kind == y.kind) = true ∧ (x.num == y.num) = true ∧ (x.den == y.den) = true ∧ decide (x.terms = y.terms) = true ∧ (x.sp == y.sp) = true ∧ (x.sd == y.sd) = true ∧ (x.sq == y.sq) = false ∧ ntEq x y = false) ∨
    ((x.name.toList == y.name.toList) = true ∧ (x.kind == y.kind) = true ∧ (x.num == y.num) = true ∧ (x.den == y.den) = true ∧ decide (x.terms = y.terms) = true ∧ (x.sp == y.sp) = true ∧ (x.sd == y.sd) = true ∧ (x.sq == y.sq) = true ∧ ntEq x y = true) := by
  unfold ntEq
  cases (x.name.toList == y.name.toList) <;> cases (x.kind == y.kind) <;> cases (x.num == y.num) <;> cases (x.den == y.den) <;> cases decide (x.terms = y.terms) <;> cases (x.sp == y.sp) <;> cases (x.sd == y.sd) <;> cases (x.sq == y.sq) <;> simp

set_option maxRecDepth 100000 in
set_option maxHeartbeats 4000000 in
theorem sameNote_any (x y : Nt) (T T' : Option Addr) (c d : Nat) (w : World) (hx : Rd (Value.int .i64) w w.heap.size T x.terms) (hy : Rd (Value.int .i64) w w.heap.size T' y.terms) (hf : x.terms.length ≤ maxLen) (hg : y.terms.length ≤ maxLen) :
    Calls Tryz.prog 78 #[ntV x.name x.kind x.num x.den T x.terms.length c x.sp x.sd x.sq, ntV y.name y.kind y.num y.den T' y.terms.length d y.sp y.sd y.sq] w fun e w' => e = .returned (.bool (ntEq x y)) ∧ Below w.heap.size w w' := by
  have HC := Lib.hid (fun o1 o2 : Obj => slicesEqual_any T T' c d x.terms y.terms ((w.alloc o1).alloc o2) (hx.next (ext_alloc (ext1 _ _) _)) (hy.next (ext_alloc (ext1 _ _) _)) hf hg)
  clear hx hy hf hg
  have q1 := Tryz.eqGuardType31
  have q2 := Tryz.stoodInHeld31
  have q3 := Tryz.eqGuardType34
  have q4 := Tryz.stoodInHeld34
  rcases ntEq_ways x y with ⟨h1, hR⟩ | ⟨h1, h2, hR⟩ | ⟨h1, h2, h3, hR⟩ | ⟨h1, h2, h3, h4, hR⟩ | ⟨h1, h2, h3, h4, h5, hR⟩ | ⟨h1, h2, h3, h4, h5, h6, hR⟩ | ⟨h1, h2, h3, h4, h5, h6, h7, hR⟩ | ⟨h1, h2, h3, h4, h5, h6, h7, h8, hR⟩ | ⟨h1, h2, h3, h4, h5, h6, h7, h8, hR⟩
  iterate 4
    · rw [hR]
      clear hR HC
      unfold ntV
      go_enter Tryz.func78, Tryz.ntmps78
      go_wp2
      go_ret
      exact ⟨rfl, ext_alloc (ext_alloc (Below.refl _ _) _) _⟩
  all_goals
    rw [hR]
    clear hR
    rw [h5] at HC
    clear h5
    unfold ntV
    go_enter Tryz.func78, Tryz.ntmps78
    go_wp2_with fail
    refine (HC.out _ _).mono ?_
    rintro e w1 ⟨rfl, hb1⟩
    obtain ⟨hc1, hf1⟩ := bcell hb1
    have hy1 := hb1.size
    (try simp at hy1)
    have hz0 : w.heap.size < w1.heap.size := by omega
    have hz1 : w.heap.size + 1 < w1.heap.size := by omega
    go_wp2
    go_ret
    exact ⟨rfl, ext_trans (ext_alloc (ext_alloc (Below.refl _ _) _) _) hb1⟩

theorem equalFuncNt_any (A B : Option Addr) (c d : Nat) (xs ys : List Nt) (w : World) (hx : RdNt w w.heap.size A xs) (hy : RdNt w w.heap.size B ys) (hf : ∀ x ∈ xs, x.fits) (hg : ∀ y ∈ ys, y.fits) (hl : xs.length ≤ maxLen) :
    Calls Tryz.prog 77 #[.slice A xs.length c, .slice B ys.length d, .func (Fn.func 78) #[] #[]] w fun e w' => e = .returned (.bool (sameNt xs ys)) ∧ Below w.heap.size w w' := by
  unfold maxLen at hl
  have HF := Lib.hid hf
  have HG := Lib.hid hg
  clear hf hg
  by_cases hlen : xs.length = ys.length
  · have hl0 : ((xs.length : Int) != (ys.length : Int)) = false := by simp [hlen]
    have hl1 : xs.length ≤ ys.length := by omega
    have hl2 : ys.length ≤ xs.length := by omega
    clear hlen
    obtain ⟨R, hR⟩ : ∃ R, sameNt xs ys = R := ⟨_, rfl⟩
    rw [hR]
    have HR := Lib.hid hR
    clear hR
    go_enter Tryz.func77, Tryz.ntmps77
    go_wp2_with fail
    go_loopw [17] (fun t wr => ∃ k : Nat, k ≤ xs.length ∧ t = .int .i64 k ∧ Hid (sameNt (xs.drop k) (ys.drop k) = R) ∧ Below w.heap.size w wr) (fun t _ => xs.length - (intOf t).toNat)
    case atStart => exact ⟨0, by omega, rfl, HR.out, Below.refl _ _⟩
    case round =>
      obtain ⟨k, hk, rfl, HK, hbe⟩ := hrel
      by_cases hlt : k < xs.length
      · obtain ⟨b, off, rfl, hb, hc⟩ := (hx.next hbe) (by omega)
        obtain ⟨b', off', rfl, hb', hc'⟩ := (hy.next hbe) (by omega)
        obtain ⟨x, hxk⟩ : ∃ x, xs[k]? = some x := ⟨_, List.getElem?_eq_getElem hlt⟩
        obtain ⟨y, hyk⟩ : ∃ y, ys[k]? = some y := ⟨_, List.getElem?_eq_getElem (by omega)⟩
        obtain ⟨T, ct, cr, cT⟩ := hc k x hxk
        obtain ⟨T', ct', dr, dT⟩ := hc' k y hyk
        have hfx := (HF.out x (List.mem_of_getElem? hxk)).2
        have hfy := (HG.out y (List.mem_of_getElem? hyk)).2
        have HS := Lib.hid (sameNt_step hxk hyk)
        have HC := Lib.hid (fun V hb => sameNote_any x y T T' ct ct' V (cT.1.next (w' := V) hb) (dT.1.next hb) hfx hfy)
        obtain ⟨c0, c1, c2, c3, c4, c5, c6, c7⟩ := cr.nt
        obtain ⟨d0, d1, d2, d3, d4, d5, d6, d7⟩ := dr.nt
        clear hc hc' hxk hyk cr dr cT dT hfx hfy
        have i0 : (0 : Int) ≤ (k : Int) := by omega
        have i1 : (k : Int) < (xs.length : Int) := by omega
        have i2 : (k : Int) < (ys.length : Int) := by omega
        cases ht : ntEq x y
        · rw [ht] at HC
          have HE : Hid (R = false) := by
            have h := HK.out
            rw [HS.out, ht, Bool.false_and] at h
            exact h.symm
          clear ht
          go_wp2_with fail
          refine (HC.out _ (ext_alloc (ext1 _ _) _)).mono ?_
          rintro e w2 ⟨rfl, hb2⟩
          go_wp2
          go_ret
          exact ⟨ret_bool HE.out.symm, ext_trans (ext_alloc (ext_alloc hbe _) _) hb2⟩
        · rw [ht] at HC
          have HE : Hid (sameNt (xs.drop (k + 1)) (ys.drop (k + 1)) = R) := by
            have h := HK.out
            rw [HS.out, ht, Bool.true_and] at h
            exact h
          clear ht
          go_wp2_with fail
          refine (HC.out _ (ext_alloc (ext1 _ _) _)).mono ?_
          rintro e w2 ⟨rfl, hb2⟩
          go_wp2
          go_roundw
          case rel => exact ⟨k + 1, by omega, by go_num, HE.out, ext_trans (ext_alloc (ext_alloc hbe _) _) hb2⟩
          case measure => simp [intOf]; omega
      · have HE : Hid (R = true) := by
          rw [← HK.out]
          exact sameNt_end (by omega) (by omega)
        go_wp2
        go_ret
        exact ⟨ret_bool HE.out.symm, hbe⟩
  · rw [sameNt_len hlen]
    have hl0 : ((xs.length : Int) != (ys.length : Int)) = true := by simp; omega
    go_enter Tryz.func77, Tryz.ntmps77
    go_wp2
    go_ret
    exact ⟨rfl, Below.refl _ _⟩
theorem iSameNotes_any (A B : Option Addr) (c d : Nat) (xs ys : List Nt) (w : World) (hx : RdNt w w.heap.size A xs) (hy : RdNt w w.heap.size B ys) (hf : ∀ x ∈ xs, x.fits) (hg : ∀ y ∈ ys, y.fits) (hl : xs.length ≤ maxLen) :
    Calls Tryz.prog 31 #[.slice A xs.length c, .slice B ys.length d] w fun e w' => e = .returned (.bool (sameNt xs ys)) ∧ Below w.heap.size w w' := by
  have HC := Lib.hid (equalFuncNt_any A B c d xs ys w hx hy hf hg hl)
  go_enter Tryz.func31, Tryz.ntmps31
  go_wp2_with fail
  refine HC.out.mono ?_
  rintro e w1 ⟨rfl, hb1⟩
  go_wp2
  go_ret
  exact ⟨rfl, hb1⟩

set_option maxRecDepth 100000 in
set_option maxHeartbeats 4000000 in
theorem l27Same_any (b o b' o' : Nat) (x y : Nt) (T T' : Option Addr) (c d : Nat) (w : World) (hxr : NtAt w b o x T c) (hyr : NtAt w b' o' y T' d) (hx : Rd (Value.int .i64) w w.heap.size T x.terms) (hy : Rd (Value.int .i64) w w.heap.size T' y.terms) (hf : x.terms.length ≤ maxLen) (hg : y.terms.length ≤ maxLen) :
    Calls Tryz.prog 76 #[.pointer (some ⟨b, o, none⟩), .pointer (some ⟨b', o', none⟩)] w fun e w' => e = .returned (.bool (ntEq x y)) ∧ Below w.heap.size w w' := by
  have HC := Lib.hid (fun V hb => l00Same_any T T' c d x.terms y.terms V (hx.next (w' := V) hb) (hy.next hb) hf hg)
  clear hx hy hf hg
  have q1 := Tryz.eqGuardType31
  have q2 := Tryz.stoodInHeld31
  have q3 := Tryz.eqGuardType34
  have q4 := Tryz.stoodInHeld34
  obtain ⟨c0, c1, c2, c3, c4, c5, c6, c7⟩ := hxr
  obtain ⟨d0, d1, d2, d3, d4, d5, d6, d7⟩ := hyr
  have k0 : ∀ x os, (grow (redrawn w x) os).cell? _ = _ := cell_regrown c0
  have k1 : ∀ x os, (grow (redrawn w x) os).cell? _ = _ := cell_regrown c1
  have k2 : ∀ x os, (grow (redrawn w x) os).cell? _ = _ := cell_regrown c2
  have k3 : ∀ x os, (grow (redrawn w x) os).cell? _ = _ := cell_regrown c3
  have k4 : ∀ x os, (grow (redrawn w x) os).cell? _ = _ := cell_regrown c4
  have k5 : ∀ x os, (grow (redrawn w x) os).cell? _ = _ := cell_regrown c5
  have k6 : ∀ x os, (grow (redrawn w x) os).cell? _ = _ := cell_regrown c6
  have k7 : ∀ x os, (grow (redrawn w x) os).cell? _ = _ := cell_regrown c7
  have l0 : ∀ x os, (grow (redrawn w x) os).cell? _ = _ := cell_regrown d0
  have l1 : ∀ x os, (grow (redrawn w x) os).cell? _ = _ := cell_regrown d1
  have l2 : ∀ x os, (grow (redrawn w x) os).cell? _ = _ := cell_regrown d2
  have l3 : ∀ x os, (grow (redrawn w x) os).cell? _ = _ := cell_regrown d3
  have l4 : ∀ x os, (grow (redrawn w x) os).cell? _ = _ := cell_regrown d4
  have l5 : ∀ x os, (grow (redrawn w x) os).cell? _ = _ := cell_regrown d5
  have l6 : ∀ x os, (grow (redrawn w x) os).cell? _ = _ := cell_regrown d6
  have l7 : ∀ x os, (grow (redrawn w x) os).cell? _ = _ := cell_regrown d7
  clear c0 c1 c2 c3 c4 c5 c6 c7 d0 d1 d2 d3 d4 d5 d6 d7
  rcases ntEq_ways x y with ⟨h1, hR⟩ | ⟨h1, h2, hR⟩ | ⟨h1, h2, h3, hR⟩ | ⟨h1, h2, h3, h4, hR⟩ | ⟨h1, h2, h3, h4, h5, hR⟩ | ⟨h1, h2, h3, h4, h5, h6, hR⟩ | ⟨h1, h2, h3, h4, h5, h6, h7, hR⟩ | ⟨h1, h2, h3, h4, h5, h6, h7, h8, hR⟩ | ⟨h1, h2, h3, h4, h5, h6, h7, h8, hR⟩
  all_goals
    rw [hR]
    clear hR
    (try rw [h5] at HC)
    (try clear h5)
    go_enter Tryz.func76, Tryz.ntmps76
    go_wp2_with fail
    refine wp_region_quiet_below (by kernel_rfl) (by kernel_rfl) ?_
    repeat (first | go_big_quiet_step ((with_reducible exact Calls.regrown_of (HC.out _ (below_regrown _ _ _)))) | quiet_step ((with_reducible exact Calls.regrown_of (HC.out _ (below_regrown _ _ _)))))
    refine wpQuiet_nil ?_
    intro _ hw'
    obtain ⟨⟨dq, oq⟩, hw''⟩ := hw'
    subst hw''
    go_wp2
    go_ret
    exact ⟨rfl, below_regrown _ _ _⟩
set_option maxHeartbeats 1000000 in
theorem sSameNotes_any (A B : Option Addr) (c d : Nat) (xs ys : List Nt) (w : World) (hx : RdNt w w.heap.size A xs) (hy : RdNt w w.heap.size B ys) (hf : ∀ x ∈ xs, x.fits) (hg : ∀ y ∈ ys, y.fits) (hl : xs.length ≤ maxLen) :
    Calls Tryz.prog 29 #[.slice A xs.length c, .slice B ys.length d] w fun e w' => e = .returned (.bool (sameNt xs ys)) ∧ Below w.heap.size w w' := by
  unfold maxLen at hl
  have HF := Lib.hid hf
  have HG := Lib.hid hg
  clear hf hg
  by_cases hlen : xs.length = ys.length
  · have hl0 : ((xs.length : Int) != (ys.length : Int)) = false := by simp [hlen]
    have hl1 : xs.length ≤ ys.length := by omega
    have hl2 : ys.length ≤ xs.length := by omega
    clear hlen
    obtain ⟨R, hR⟩ : ∃ R, sameNt xs ys = R := ⟨_, rfl⟩
    rw [hR]
    have HR := Lib.hid hR
    clear hR
    go_enter Tryz.func29, Tryz.ntmps29
    go_wp2_with fail
    go_loopw [5] (fun t wr => ∃ k : Nat, k ≤ xs.length ∧ t = .int .i64 k ∧ Hid (sameNt (xs.drop k) (ys.drop k) = R) ∧ Below w.heap.size w wr) (fun t _ => xs.length - (intOf t).toNat)
    case atStart => exact ⟨0, by omega, rfl, HR.out, Below.refl _ _⟩
    case round =>
      obtain ⟨k, hk, rfl, HK, hbe⟩ := hrel
      by_cases hlt : k < xs.length
      · obtain ⟨b, off, rfl, hb, hc⟩ := (hx.next hbe) (by omega)
        obtain ⟨b', off', rfl, hb', hc'⟩ := (hy.next hbe) (by omega)
        obtain ⟨x, hxk⟩ : ∃ x, xs[k]? = some x := ⟨_, List.getElem?_eq_getElem hlt⟩
        obtain ⟨y, hyk⟩ : ∃ y, ys[k]? = some y := ⟨_, List.getElem?_eq_getElem (by omega)⟩
        obtain ⟨T, ct, cr, cT⟩ := hc k x hxk
        obtain ⟨T', ct', dr, dT⟩ := hc' k y hyk
        have hfx := (HF.out x (List.mem_of_getElem? hxk)).2
        have hfy := (HG.out y (List.mem_of_getElem? hyk)).2
        have HS := Lib.hid (sameNt_step hxk hyk)
        have HC := Lib.hid (fun V (h : Below wr.heap.size wr V) => l27Same_any b (off + k * 8) b' (off' + k * 8) x y T T' ct ct' V (cr.below h hb).nt (dr.below h hb').nt (cT.1.next h) (dT.1.next h) hfx hfy)
        clear hc hc' hxk hyk cr dr cT dT hfx hfy
        have i0 : (0 : Int) ≤ (k : Int) := by omega
        have i1 : (k : Int) < (xs.length : Int) := by omega
        have i2 : (k : Int) < (ys.length : Int) := by omega
        cases ht : ntEq x y
        · rw [ht] at HC
          have HE : Hid (R = false) := by
            have h := HK.out
            rw [HS.out, ht, Bool.false_and] at h
            exact h.symm
          clear ht
          go_wp2_with fail
          refine wp_region_quiet_below (by kernel_rfl) (by kernel_rfl) ?_
          repeat (first | go_big_quiet_step ((with_reducible exact Calls.regrown_of (HC.out _ (below_regrown _ _ _)))) | quiet_step ((with_reducible exact Calls.regrown_of (HC.out _ (below_regrown _ _ _)))))
          refine wpQuiet_nil ?_
          intro _ hw'
          obtain ⟨⟨dq, oq⟩, hw''⟩ := hw'
          subst hw''
          go_wp2
          go_ret
          exact ⟨ret_bool HE.out.symm, ext_trans hbe (below_regrown _ _ _)⟩
        · rw [ht] at HC
          have HE : Hid (sameNt (xs.drop (k + 1)) (ys.drop (k + 1)) = R) := by
            have h := HK.out
            rw [HS.out, ht, Bool.true_and] at h
            exact h
          clear ht
          go_wp2_with fail
          refine wp_region_quiet_below (by kernel_rfl) (by kernel_rfl) ?_
          repeat (first | go_big_quiet_step ((with_reducible exact Calls.regrown_of (HC.out _ (below_regrown _ _ _)))) | quiet_step ((with_reducible exact Calls.regrown_of (HC.out _ (below_regrown _ _ _)))))
          refine wpQuiet_nil ?_
          intro _ hw'
          obtain ⟨⟨dq, oq⟩, hw''⟩ := hw'
          subst hw''
          go_wp2
          go_roundw
          case rel => exact ⟨k + 1, by omega, by go_num, HE.out, ext_trans hbe (below_regrown _ _ _)⟩
          case measure => simp [intOf]; omega
      · have HE : Hid (R = true) := by
          rw [← HK.out]
          exact sameNt_end (by omega) (by omega)
        go_wp2
        go_ret
        exact ⟨ret_bool HE.out.symm, hbe⟩
  · rw [sameNt_len hlen]
    have hl0 : ((xs.length : Int) != (ys.length : Int)) = true := by simp; omega
    go_enter Tryz.func29, Tryz.ntmps29
    go_wp2
    go_ret
    exact ⟨rfl, Below.refl _ _⟩
end Go.Proofs.YtbcikkaoohihhaaGreatDoor
