/- The texts of terms: both walks. No condition but those that each theorem names. -/
import Derived.Test.YtbcikkaoohihhaaGreatDoorTextTW
import Derived.Test.YtbcikkaoohihhaaGreatDoorTextFW
namespace Go.Proofs.YtbcikkaoohihhaaGreatDoor
open Go.RowKit Go.Sort

theorem tmO_le {ts : List Int} (h : ∀ t ∈ ts, -1000000000 ≤ t ∧ t ≤ 1000000000) (hl : ts.length ≤ 60) (k : Nat) (hk : k ≤ ts.length) : (tmO ts k).size ≤ 1400 := by
  have := tmO_size h k hk
  omega
theorem tmO_one {ts : List Int} {t : Int} (h : ts[0]? = some t) : tmO ts 1 = ({ data := #[91] } : ByteArray) ++ decB t := by
  unfold tmO
  simp only [List.getD, h, Option.getD_some]
theorem tmO_next {ts : List Int} {k : Nat} {t : Int} (hk : 1 ≤ k) (h : ts[k]? = some t) : tmO ts (k + 1) = (tmO ts k ++ (if k = 1 then ({ data := #[59, 32] } : ByteArray) else ({ data := #[44, 32] } : ByteArray))) ++ decB t := by
  obtain ⟨m, rfl⟩ : ∃ m, k = m + 1 := ⟨k - 1, by omega⟩
  rw [show m + 1 + 1 = m + 2 from rfl, tmO]
  simp only [List.getD, h, Option.getD_some]
  congr 2
  by_cases h0 : m = 0
  · rw [if_pos h0, if_pos (by omega)]
  · rw [if_neg h0, if_neg (by omega)]
theorem ztT (a s d : ByteArray) (h1 : a.size ≤ 1400) (h2 : s.size = 2) (h3 : d.size ≤ 21) : (a ++ s).size ≤ 1500 ∧ ((a ++ s) ++ d).size ≤ 1500 := by
  simp only [appSize]; omega
set_option maxHeartbeats 2000000 in
theorem l03Text_any (A : Option Addr) (c : Nat) (xs : List Int) (w : World) (hx : Rd (Value.int .i64) w w.heap.size A xs) (hl : xs.length ≤ 60) (h0 : 1 ≤ xs.length) (hbd : ∀ t ∈ xs, -1000000000 ≤ t ∧ t ≤ 1000000000) :
    Calls Tryz.prog 111 #[.slice A xs.length c] w fun e w' => e = .returned (.string (tmT xs)) ∧ Below w.heap.size w w' := by
  obtain ⟨b, off, rfl, hb, hc⟩ := hx (by omega)
  have HX : Hid (∀ W, Below w.heap.size w W → ∀ j x, xs[j]? = some x → W.cell? ⟨b, off + j, none⟩ = some (.int .i64 x)) := fun W hbW j x hj => (hbW.cell (p := ⟨b, off + j, none⟩) hb).trans (hc j x hj)
  have HBD := Lib.hid hbd
  have HTO : Hid (∀ k, k ≤ xs.length → (tmO xs k).size ≤ 1400) := fun k hk => tmO_le hbd hl k hk
  have HE : Hid (tmT xs = tmO xs xs.length ++ ({ data := #[93] } : ByteArray)) := rfl
  obtain ⟨x0, hx0⟩ : ∃ x, xs[0]? = some x := ⟨_, List.getElem?_eq_getElem (by omega)⟩
  have H1 := Lib.hid (tmO_one hx0)
  obtain ⟨b1, b2⟩ := hbd x0 (List.mem_of_getElem? hx0)
  have HD0 := Lib.hid (l01Dec_any x0 w (by omega) (by omega))
  have z0 := decB_size (n := x0) (by omega) (by omega)
  have c0 : w.cell? ⟨b, off, none⟩ = some (.int .i64 x0) := hc 0 x0 hx0
  have t0 : (({ data := #[91] } : ByteArray) ++ decB x0).size ≤ 1500 := by
    rw [appSize, show ({ data := #[91] } : ByteArray).size = 1 from rfl]; omega
  have n0 : (0 : Int) < (xs.length : Int) := by omega
  generalize tmT xs = R at *
  generalize decB x0 = a0 at *
  clear hx hbd hc hx0
  go_enter Tryz.func111, Tryz.ntmps111
  go_wp2_with fail
  refine HD0.out.mono ?_
  rintro e w1 ⟨rfl, hb1⟩
  have HB1 := Lib.hid hb1
  clear hb1 HD0
  go_wp2_with fail
  rw [← H1.out]
  clear H1 t0 c0 z0 b1 b2
  go_loopw [3, 4] (fun s t wr => ∃ k : Nat, 1 ≤ k ∧ k ≤ xs.length ∧ t = .int .i64 k ∧ s = .string (tmO xs k) ∧ Hid (Below w.heap.size w wr)) (fun _ t _ => xs.length - (intOf t).toNat)
  case atStart => exact ⟨1, by omega, by omega, rfl, rfl, HB1.out⟩
  case round =>
    obtain ⟨k, hk1, hk, rfl, rfl, HR⟩ := hrel
    clear HB1
    by_cases hlt : k < xs.length
    · obtain ⟨x, hxi⟩ : ∃ x, xs[k]? = some x := ⟨_, List.getElem?_eq_getElem hlt⟩
      obtain ⟨b1, b2⟩ := HBD.out x (List.mem_of_getElem? hxi)
      have cx := HX.out wr HR.out k x hxi
      have HD := Lib.hid (l01Dec_any x wr (by omega) (by omega))
      have z0 := decB_size (n := x) (by omega) (by omega)
      have HN := Lib.hid (tmO_next hk1 hxi)
      have zz := HTO.out k hk
      generalize tmO xs k = T0 at *
      generalize decB x = d0 at *
      have j0 : (0 : Int) ≤ (k : Int) := by omega
      have j1 : (k : Int) < (xs.length : Int) := by omega
      by_cases h1 : k = 1
      · have h1' : ((k : Int) == 1) = true := by simp [h1]
        rw [if_pos h1] at HN
        obtain ⟨t0, t1⟩ := ztT T0 { data := #[59, 32] } d0 zz rfl z0
        clear h1
        go_wp2_with fail
        refine HD.out.mono ?_
        rintro e w3 ⟨rfl, hb3⟩
        have HR3 := Lib.hid (ext_trans HR.out hb3)
        clear hb3 HD
        go_wp2
        go_roundw
        case rel => exact ⟨k + 1, by omega, by omega, by go_num, by rw [HN.out], HR3.out⟩
        case measure => simp [intOf]; omega
      · have h1' : ((k : Int) == 1) = false := beq_eq_false_iff_ne.2 (by omega)
        rw [if_neg h1] at HN
        obtain ⟨t0, t1⟩ := ztT T0 { data := #[44, 32] } d0 zz rfl z0
        clear h1
        go_wp2_with fail
        refine HD.out.mono ?_
        rintro e w3 ⟨rfl, hb3⟩
        have HR3 := Lib.hid (ext_trans HR.out hb3)
        clear hb3 HD
        go_wp2
        go_roundw
        case rel => exact ⟨k + 1, by omega, by omega, by go_num, by rw [HN.out], HR3.out⟩
        case measure => simp [intOf]; omega
    · have hil : k = xs.length := by omega
      subst hil
      have zz := HTO.out xs.length (by omega)
      have HBE := Lib.hid HR.out
      have t0 : (tmO xs xs.length ++ ({ data := #[93] } : ByteArray)).size ≤ 1500 := by
        rw [appSize, show ({ data := #[93] } : ByteArray).size = 1 from rfl]; omega
      generalize tmO xs xs.length = T0 at *
      go_wp2
      go_ret
      rw [HE.out]
      exact ⟨rfl, HBE.out⟩
set_option maxHeartbeats 2000000 in
theorem iTermsText_any (A : Option Addr) (c : Nat) (xs : List Int) (w : World) (hx : RdC w w.heap.size A c xs) (hl : xs.length ≤ 60) (h0 : 1 ≤ xs.length) (hbd : ∀ t ∈ xs, -1000000000 ≤ t ∧ t ≤ 1000000000) (hv : termsB xs = true) (hT : Tab10 w) :
    Calls Tryz.prog 59 #[.slice A xs.length c] w fun e w' => e = .returned (.string (tmT xs)) ∧ Below w.heap.size w w' := by
  obtain ⟨N, hN⟩ : ∃ N, xs.length = N := ⟨_, rfl⟩
  have HV : Hid (Calls Tryz.prog 95 #[.slice A N c] w fun e w' => e = .returned (.bool true) ∧ w = w') := by
    have := ValidTerms_any A c xs w hx (by unfold maxLen; omega)
    rwa [hv, hN] at this
  rw [hN]
  obtain ⟨hx, hc1, hc2⟩ := hx
  rw [hN] at hc1
  obtain ⟨b, off, rfl, hb, hc⟩ := hx (by omega)
  obtain ⟨x0, r, rfl⟩ : ∃ t r, xs = t :: r := by cases xs with | nil => simp at h0 | cons t r => exact ⟨t, r, rfl⟩
  obtain ⟨b1, b2⟩ := hbd x0 (by simp)
  have HD0 := Lib.hid (iDecimal_any x0 w (by omega) (by omega) hT)
  have z0 := decB_size (n := x0) (by omega) (by omega)
  have c0 : w.cell? ⟨b, off, none⟩ = some (.int .i64 x0) := hc 0 x0 rfl
  have HRR : Hid (∀ W, Below w.heap.size w W → Rd (Value.int .i64) W W.heap.size (some ⟨b, off + 1, none⟩) r) := fun W hbW _ => ⟨b, off + 1, rfl, Nat.lt_of_lt_of_le hb hbW.size, fun j x hj => by
    have := hc (j + 1) x (by simpa using hj)
    rw [show off + 1 + j = off + (j + 1) by omega]
    exact (hbW.cell (p := ⟨b, off + (j + 1), none⟩) hb).trans this⟩
  have hrb : ∀ t ∈ r, -1000000000 ≤ t ∧ t ≤ 1000000000 := fun t ht => hbd t (List.mem_cons_of_mem _ ht)
  have HJ : Hid (∀ W C, Below w.heap.size w W → Calls Tryz.prog 109 #[.slice (some ⟨b, off + 1, none⟩) r.length C, .string { data := #[44, 32] }] W fun e w' => e = .returned (.string (jnB r)) ∧ Below W.heap.size W w') := fun W C hbW => decimals_any _ C r W (HRR.out W hbW) (by simp at hl; omega) hrb (hT.next hbW)
  have zj : (jnB r).size ≤ 1400 := by have := jnB_size hrb; simp at hl; omega
  have hNn : N = r.length + 1 := by simpa using hN.symm
  have HE1 : Hid (r.length = 0 → tmT (x0 :: r) = (({ data := #[91] } : ByteArray) ++ decB x0) ++ ({ data := #[93] } : ByteArray)) := fun h => by
    obtain rfl := List.eq_nil_of_length_eq_zero h
    rfl
  have HE2 : Hid (0 < r.length → tmT (x0 :: r) = ((({ data := #[91] } : ByteArray) ++ decB x0) ++ (({ data := #[59, 32] } : ByteArray) ++ jnB r)) ++ ({ data := #[93] } : ByteArray)) := fun h => tmT_more x0 r h
  clear hN h0 hl
  generalize tmT (x0 :: r) = R at *
  generalize decB x0 = a0 at *
  generalize jnB r = J at *
  generalize r.length = n at *
  clear hx hbd hc hT hv HRR hrb
  have hc1 : N ≤ c := by first | assumption | omega
  have t0 : (({ data := #[91] } : ByteArray) ++ a0).size ≤ 2000 := by
    rw [appSize, show ({ data := #[91] } : ByteArray).size = 1 from rfl]; omega
  have t1 : ((({ data := #[91] } : ByteArray) ++ a0) ++ ({ data := #[93] } : ByteArray)).size ≤ 2000 := by
    rw [appSize, appSize, show ({ data := #[91] } : ByteArray).size = 1 from rfl, show ({ data := #[93] } : ByteArray).size = 1 from rfl]; omega
  have t2 : (({ data := #[59, 32] } : ByteArray) ++ J).size ≤ 2000 := by
    rw [appSize, show ({ data := #[59, 32] } : ByteArray).size = 2 from rfl]; omega
  have t3 : ((({ data := #[91] } : ByteArray) ++ a0) ++ (({ data := #[59, 32] } : ByteArray) ++ J)).size ≤ 2000 := by
    rw [appSize, appSize, appSize, show ({ data := #[91] } : ByteArray).size = 1 from rfl, show ({ data := #[59, 32] } : ByteArray).size = 2 from rfl]; omega
  have t4 : (((({ data := #[91] } : ByteArray) ++ a0) ++ (({ data := #[59, 32] } : ByteArray) ++ J)) ++ ({ data := #[93] } : ByteArray)).size ≤ 2000 := by
    rw [appSize, appSize, appSize, appSize, show ({ data := #[91] } : ByteArray).size = 1 from rfl, show ({ data := #[59, 32] } : ByteArray).size = 2 from rfl, show ({ data := #[93] } : ByteArray).size = 1 from rfl]; omega
  have hNi : (0 : Int) < (N : Int) := by omega
  have HJ2 : Hid (∀ W C, Below w.heap.size w W → Calls Tryz.prog 109 #[.slice (some ⟨b, off + 1, none⟩) (N - 1) C, .string { data := #[44, 32] }] W fun e w' => e = .returned (.string J) ∧ Below W.heap.size W w') := fun W C hbW => by
    rw [show N - 1 = n by omega]; exact HJ.out W C hbW
  clear HJ
  rcases Nat.lt_or_ge 0 n with g | g
  · have HE := Lib.hid (HE2.out g)
    have g1 : (1 : Int) < (N : Int) := by omega
    have g2 : (1 : Int) ≤ (N : Int) := by omega
    clear HE1 HE2 hNn
    go_enter Tryz.func59, Tryz.ntmps59
    go_wp2_with fail
    refine HV.out.mono ?_
    rintro e w1 ⟨rfl, rfl⟩
    go_wp2_with fail
    refine HD0.out.mono ?_
    rintro e w2 ⟨rfl, hb2⟩
    have HB2 := Lib.hid hb2
    clear hb2
    go_wp2_with fail
    refine (HJ2.out w2 _ HB2.out).mono ?_
    rintro e w3 ⟨rfl, hb3⟩
    go_wp2
    go_ret
    rw [HE.out]
    exact ⟨rfl, ext_trans HB2.out hb3⟩
  · have HE := Lib.hid (HE1.out (by omega))
    have g1 : ¬ (1 : Int) < (N : Int) := by omega
    clear HE1 HE2 hNn
    go_enter Tryz.func59, Tryz.ntmps59
    go_wp2_with fail
    refine HV.out.mono ?_
    rintro e w1 ⟨rfl, rfl⟩
    go_wp2_with fail
    refine HD0.out.mono ?_
    rintro e w2 ⟨rfl, hb2⟩
    go_wp2
    go_ret
    rw [HE.out]
    exact ⟨rfl, hb2⟩
end Go.Proofs.YtbcikkaoohihhaaGreatDoor
