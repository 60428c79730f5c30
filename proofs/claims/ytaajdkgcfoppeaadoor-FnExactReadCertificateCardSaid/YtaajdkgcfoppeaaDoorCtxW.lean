/- CertificateText: both walks. No condition but those that each theorem names. -/
import Derived.Test.YtaajdkgcfoppeaaDoorDecNW
import Derived.Test.YtaajdkgcfoppeaaDoorCheckAW
import Derived.Test.YtaajdkgcfoppeaaDoorCertW
import Derived.Deep.RegionHeld3
import Derived.Deep.RegionLaw
namespace Go.Proofs.YtaajdkgcfoppeaaDoor
open Go.RowKit Go.Sort

/-- The words of the kinds: gcd, root, linear, unit, period, best. -/
def ctWords : List ByteArray := [⟨#[103, 99, 100]⟩, ⟨#[114, 111, 111, 116]⟩, ⟨#[108, 105, 110, 101, 97, 114]⟩, ⟨#[117, 110, 105, 116]⟩, ⟨#[112, 101, 114, 105, 111, 100]⟩, ⟨#[98, 101, 115, 116]⟩]
/-- A certificate's text, up to k numbers. -/
def ctOut (d : ByteArray) (xs : List Int) : Nat → ByteArray
  | 0 => d
  | k + 1 => ctOut d xs k ++ ({ data := #[32] } ++ decB (xs.getD k 0))
theorem ctOut_size {d : ByteArray} {xs : List Int} (hd : d.size ≤ 6) (h : ∀ x ∈ xs, -1000000000 ≤ x ∧ x ≤ 1000000000) : ∀ k, k ≤ xs.length → (ctOut d xs k).size ≤ 6 + 22 * k
  | 0, _ => by simpa [ctOut] using hd
  | k + 1, hk => by
    have ih := ctOut_size hd h k (by omega)
    have hx : xs[k]? = some (xs[k]'(by omega)) := List.getElem?_eq_getElem (by omega)
    have hb := h _ (List.getElem_mem (show k < xs.length by omega))
    have hz := decB_size (n := xs[k]'(by omega)) (by omega) (by omega)
    have e1 : ∀ a b : ByteArray, (a ++ b).size = a.size + b.size := fun a b => ByteArray.size_append
    have e2 : ({ data := #[32] } : ByteArray).size = 1 := rfl
    unfold ctOut
    simp only [List.getD, hx, Option.getD_some]
    rw [e1, e1, e2]
    omega
/-- A certificate's text. -/
def ctB (kk : Int) (xs : List Int) : ByteArray := if bdC kk xs = true then ctOut (ctWords.getD (kk - 1).toNat ⟨#[]⟩) xs xs.length else ⟨#[]⟩
theorem certNames_any (w : World) : Calls Tryd.prog 16 #[] w fun e w' => e = .returned (.slice (some ⟨w.heap.size, 0, none⟩) 6 6) ∧ (∀ j x, ctWords[j]? = some x → w'.cell? ⟨w.heap.size, j, none⟩ = some (.string x)) ∧ Below w.heap.size w w' := by
  go_enter Tryd.func16, Tryd.ntmps16
  go_wp2
  go_ret
  refine ⟨rfl, fun j x hx => ?_, ext1 _ _⟩
  rw [cell_one]
  rcases j with _ | _ | _ | _ | _ | _ | j <;> simp [ctWords] at hx <;> subst hx <;> rfl
theorem l26Words_any (w : World) : Calls Tryd.prog 10 #[] w fun e w' => e = .returned (.slice (some ⟨w.heap.size, 0, none⟩) 6 6) ∧ (∀ j x, ctWords[j]? = some x → w'.cell? ⟨w.heap.size, j, none⟩ = some (.string x)) ∧ Below w.heap.size w w' := by
  go_enter Tryd.func10, Tryd.ntmps10
  go_wp2
  go_ret
  refine ⟨rfl, fun j x hx => ?_, ext1 _ _⟩
  rw [cell_one]
  rcases j with _ | _ | _ | _ | _ | _ | j <;> simp [ctWords] at hx <;> subst hx <;> rfl
set_option maxHeartbeats 2000000 in
theorem iCertText_any (kk : Int) (A : Option Addr) (c : Nat) (xs : List Int) (w : World) (hx : Rd (Value.int .i64) w w.heap.size A xs) (hm : xs.length ≤ maxLen) (hT : Tab10 w) :
    Calls Tryd.prog 17 #[certV kk A xs.length c] w fun e w' => e = .returned (.string (ctB kk xs)) ∧ Below w.heap.size w w' := by
  have HX : Hid (∀ W, Below w.heap.size w W → Rd (Value.int .i64) W W.heap.size A xs) := fun W hb => (hx.below hb).more hb.size
  have HTT : Hid (∀ W, Below w.heap.size w W → Tab10 W) := fun W hb => hT.next hb
  have HB : Hid (∀ W, Below w.heap.size w W → Calls Tryd.prog 26 #[certV kk A xs.length c] W fun e w' => e = .returned (.bool (bdC kk xs)) ∧ Below W.heap.size W w') := fun W hb => isBoundedCert_any kk A c xs W (HX.out W hb) hm
  have HE : Hid (ctB kk xs = if bdC kk xs = true then ctOut (ctWords.getD (kk - 1).toNat ⟨#[]⟩) xs xs.length else ⟨#[]⟩) := rfl
  cases hv : bdC kk xs
  · rw [hv] at HB HE
    simp only [Bool.false_eq_true, if_false] at HE
    generalize ctB kk xs = R at *
    clear hx hT hv
    unfold certV at *
    go_enter Tryd.func17, Tryd.ntmps17
    go_wp2_with fail
    refine (HB.out _ (ext1 _ _)).mono ?_
    rintro e w1 ⟨rfl, hb1⟩
    go_wp2
    go_ret
    rw [HE.out]
    exact ⟨rfl, ext_trans (ext1 _ _) hb1⟩
  · rw [hv] at HB HE
    rw [if_pos rfl] at HE
    unfold bdC at hv
    rw [Bool.and_eq_true] at hv
    obtain ⟨k1, k2⟩ := inR_true.1 hv.1
    obtain ⟨hl, hbd⟩ := nbB_all hv.2
    have HBD := Lib.hid hbd
    obtain ⟨m, hm0⟩ : ∃ m : Nat, (kk - 1).toNat = m := ⟨_, rfl⟩
    have hm6 : m < 6 := by omega
    obtain ⟨d, hd⟩ : ∃ d, ctWords[m]? = some d := ⟨_, List.getElem?_eq_getElem (by simpa [ctWords] using hm6)⟩
    have hds : d.size ≤ 6 := by
      have : ∀ x ∈ ctWords, x.size ≤ 6 := by decide
      exact this d (List.mem_of_getElem? hd)
    have HE2 : Hid (ctB kk xs = ctOut d xs xs.length) := by
      have h := HE.out
      rw [hm0] at h
      unfold Hid
      rw [h]
      simp only [List.getD, hd, Option.getD_some]
    have HSZ := Lib.hid (ctOut_size hds hbd)
    have v1 : kk - 1 = (m : Int) := by omega
    have v2 : IntKind.i64.wrap (m : Int) = (m : Int) := IntWalk.i64_in _ (by omega)
    have i0 : (0 : Int) ≤ (m : Int) := by omega
    have i1 : (m : Int) < 6 := by omega
    have HD := Lib.hid hd
    generalize ctB kk xs = R at *
    clear hx hT hv HE hm0 hd hbd
    unfold certV at *
    have HBX := Lib.hid (BoxV.new w #[.int .i64 kk, .slice A xs.length c] 24)
    have E0 := Lib.hid (ext1 w (.cells #[.int .i64 kk, .slice A xs.length c] 24))
    go_enter Tryd.func17, Tryd.ntmps17
    go_wp2_with fail
    generalize w.alloc (.cells #[.int .i64 kk, .slice A xs.length c] 24) = W0 at *
    refine (HB.out _ E0.out).mono ?_
    rintro e w1 ⟨rfl, hb1⟩
    have B1 := Lib.hid (HBX.out.next hb1)
    have E1 := Lib.hid (ext_trans E0.out hb1)
    have x0 := B1.out.at 0 _ rfl
    have x1 := B1.out.at 1 _ rfl
    clear hb1 HBX E0
    go_wp2_with fail
    go_region_law (first
      | (go_simp; go_at_call 16; ((with_reducible refine (certNames_any _).mono ?_); rintro e w2 ⟨rfl, hws, hb2⟩; have B2 := B1.out.drew.next hb2; have z0 := B2.at 0 _ rfl; have z1 := B2.at 1 _ rfl; have cs : w2.cell? ⟨w1.heap.size, m, none⟩ = some (.string d) := hws m d HD.out))
      | fail)
    all_goals
      have E2 := Lib.hid (ext_trans (ext_drew E1.out) hb2)
      clear x0 x1 z0 cs hws hb2 B1 E1 B2 HB hds
      go_wp2_with fail
      go_loopw [3, 18, 5] (fun t u v wr => ∃ k : Nat, k ≤ xs.length ∧ t = .string (ctOut d xs k) ∧ u = .int .i64 k ∧ Hid (Below w.heap.size w wr)) (fun _ u _ _ => xs.length - (intOf u).toNat)
      case atStart => exact ⟨0, by omega, rfl, rfl, E2.out⟩
      case round =>
        obtain ⟨k, hk, rfl, rfl, HE⟩ := hrel
        have hsz := HSZ.out k hk
        by_cases hlt : k < xs.length
        · obtain ⟨b, off, rfl, hb, hc⟩ := HX.out wr HE.out (by omega)
          obtain ⟨x, hxk⟩ : ∃ x, xs[k]? = some x := ⟨_, List.getElem?_eq_getElem hlt⟩
          have cx := hc k x hxk
          obtain ⟨b1, b2⟩ := HBD.out x (List.mem_of_getElem? hxk)
          have HC := Lib.hid (iDecimal_any x wr (by omega) (by omega) (HTT.out wr HE.out))
          have hdz := decB_size (n := x) (by omega) (by omega)
          have HS : Hid (ctOut d xs (k + 1) = ctOut d xs k ++ ({ data := #[32] } ++ decB x)) := by
            unfold Hid
            rw [ctOut]
            simp only [List.getD, hxk, Option.getD_some]
          have e1 : ∀ a b : ByteArray, (a ++ b).size = a.size + b.size := fun a b => ByteArray.size_append
          have e2 : ({ data := #[32] } : ByteArray).size = 1 := rfl
          generalize decB x = q at *
          generalize ctOut d xs k = o at *
          have z1 : ({ data := #[32] } ++ q : ByteArray).size ≤ 22 := by rw [e1, e2]; omega
          have z2 : (o ++ ({ data := #[32] } ++ q) : ByteArray).size ≤ 28 + 22 * k := by rw [e1]; omega
          have j0 : (0 : Int) ≤ (k : Int) := by omega
          have j1 : (k : Int) < (xs.length : Int) := by omega
          clear hc hxk e1 e2
          go_wp2_with fail
          refine HC.out.mono ?_
          rintro e w3 ⟨rfl, hb3⟩
          have HE3 := Lib.hid (ext_trans HE.out hb3)
          clear hb3
          go_wp2
          go_roundw
          case rel => exact ⟨k + 1, by omega, by rw [HS.out], by go_num, HE3.out⟩
          case measure => simp [intOf]; omega
        · have hkl : k = xs.length := by omega
          have HR : Hid (R = ctOut d xs k) := by rw [hkl]; exact HE2.out
          clear hkl
          go_wp2
          go_ret
          rw [HR.out]
          exact ⟨rfl, HE.out⟩
end Go.Proofs.YtaajdkgcfoppeaaDoor
