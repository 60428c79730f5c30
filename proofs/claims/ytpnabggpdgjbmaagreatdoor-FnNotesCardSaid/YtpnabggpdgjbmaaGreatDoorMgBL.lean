/- The program's reader of packed bytes: the walks. No condition but those that each theorem names. -/
import Derived.Test.YtpnabggpdgjbmaaGreatDoorMgAN
import Derived.Test.YtpnabggpdgjbmaaGreatDoorMgAC
import Derived.Test.YtpnabggpdgjbmaaGreatDoorMgAB
import Derived.Test.YtpnabggpdgjbmaaGreatDoorShelf
namespace Go.Proofs.YtpnabggpdgjbmaaGreatDoor
open Go.RowKit Go.Sort
/-- A reader: what lies ahead, and whether all went well. -/
def StI (g : Nat) (D : List Int) (ok : Bool) (W : World) : Prop := ∃ R : ByteArray, byI R = D ∧ BoxV g [.string R, .bool (!ok)] W
theorem StI.lt {g : Nat} {D : List Int} {ok : Bool} {W : World} (h : StI g D ok W) : g < W.heap.size := by obtain ⟨R, _, hB⟩ := h; exact hB.lt
theorem StI.next {g : Nat} {D : List Int} {ok : Bool} {W W' : World} (h : StI g D ok W) (hb : Below W.heap.size W W') : StI g D ok W' := by obtain ⟨R, hR, hB⟩ := h; exact ⟨R, hR, hB.next hb⟩
theorem StI.put {g b j : Nat} {D : List Int} {ok : Bool} {W : World} (h : StI g D ok W) (hb : b ≠ g) (u : Value) : StI g D ok (W.setCell ⟨b, j, none⟩ u) := by obtain ⟨R, hR, hB⟩ := h; exact ⟨R, hR, hB.setFar u hb⟩
theorem StI.grown {g : Nat} {D : List Int} {ok : Bool} {W W' : World} {row : Option Nat} (h : StI g D ok W) (hg : W.grownBy W' row) (hn : row ≠ some g) : StI g D ok W' := by obtain ⟨R, hR, hB⟩ := h; exact ⟨R, hR, hB.grown hg hn⟩
/-- What a reader that takes n bytes tells. -/
def TakP (D : List Int) (ok : Bool) (n : Nat) (out : ByteArray) (D' : List Int) (ok' : Bool) : Prop :=
  (n ≤ D.length ∧ byI out = D.take n ∧ D' = D.drop n ∧ ok' = ok) ∨ (D.length < n ∧ byI out = List.replicate n 0 ∧ D' = D ∧ ok' = false)
theorem TakP.size {D : List Int} {ok : Bool} {n : Nat} {out : ByteArray} {D' : List Int} {ok' : Bool} (h : TakP D ok n out D' ok') : out.size = n := by
  rcases h with ⟨h1, h2, _⟩ | ⟨_, h2, _⟩
  · have := congrArg List.length h2
    rw [byI_length, List.length_take] at this
    omega
  · have := congrArg List.length h2
    rw [byI_length, List.length_replicate] at this
    exact this
theorem TakP.byte {D : List Int} {ok : Bool} {out : ByteArray} {D' : List Int} {ok' : Bool} (h : TakP D ok 1 out D' ok') (h0 : 0 < out.size) : BytP D ok (out[0]).toNat D' ok' := by
  have hg := byI_get h0
  refine ⟨by have := (out[0]).toNat_lt; omega, ?_⟩
  rcases h with ⟨h1, h2, h3, h4⟩ | ⟨h1, h2, h3, h4⟩
  · left
    rw [h2] at hg
    cases D with
    | nil => simp at h1
    | cons d D =>
      simp at hg h3
      exact ⟨by rw [h3, hg], h4⟩
  · right
    rw [h2] at hg
    simp at hg
    exact ⟨h4, h3, by omega, .inl (List.length_eq_zero_iff.1 (by omega))⟩
theorem TakP.nam {D : List Int} {ok : Bool} {n : Nat} {out : ByteArray} {D' : List Int} {ok' : Bool} (h : TakP D ok n out D' ok') {R : ByteArray} (hR : byI R = D) (hn : n ≤ 255) : NamP D ok n out D' ok' := by
  have hz := h.size
  have hl : D.length = R.size := by rw [← hR]; exact byI_length R
  rcases h with ⟨h1, h2, h3, h4⟩ | ⟨h1, h2, h3, h4⟩
  · subst h4
    exact NamP.of hR (by omega) hn h2 h3
  · subst h3 h4
    exact NamP.short h1 (by omega)
theorem rep_byI (n : Nat) : byI ⟨(Lib.repeatL [0] n).toArray⟩ = List.replicate n 0 := by
  have h : ∀ n, (Lib.repeatL [0] n).map (fun b : UInt8 => (b.toNat : Int)) = List.replicate n 0 := by
    intro n
    induction n with
    | zero => rfl
    | succ n ih => rw [Lib.repeatL, List.map_append, ih, List.replicate_succ]; rfl
  show ((Lib.repeatL [0] n).toArray.toList).map _ = _
  exact h n
/-- What a reader that takes n bytes returns. -/
def RetTk (g n : Nat) (D : List Int) (ok : Bool) (w : World) (e : Ending) (w' : World) : Prop := ∃ out D' ok', e = .returned (.string out) ∧ TakP D ok n out D' ok' ∧ StI g D' ok' w' ∧ Keep g w w'
/-- What a reader of a number returns. -/
def RetNu (S : List Int → Bool → World → Prop) (g : Nat) (D : List Int) (ok : Bool) (w : World) (e : Ending) (w' : World) : Prop := ∃ n D' ok', e = .returned (.int .i64 n) ∧ NumP D ok n D' ok' ∧ S D' ok' w' ∧ Keep g w w'
theorem num_eqs {M : Nat} (hM : M < 9223372036854775808) : (M : Int).tdiv 2 = ((M / 2 : Nat) : Int) ∧ (M : Int) / 2 = ((M / 2 : Nat) : Int) ∧ IntKind.u64.wrap ((M / 2 : Nat) : Int) = ((M / 2 : Nat) : Int) ∧ IntKind.i64.wrap ((M / 2 : Nat) : Int) = ((M / 2 : Nat) : Int) ∧
    IntKind.i64.wrap (-((M / 2 : Nat) : Int)) = -((M / 2 : Nat) : Int) ∧ IntKind.i64.wrap (-((M / 2 : Nat) : Int) - 1) = -((M / 2 : Nat) : Int) - 1 :=
  ⟨by rw [Int.tdiv_eq_ediv_of_nonneg (by omega)]; omega, by omega, IntWalk.u64_in _ (by omega), IntWalk.i64_in _ (by omega), IntWalk.i64_in _ (by omega), IntWalk.i64_in _ (by omega)⟩
set_option maxRecDepth 100000 in
set_option maxHeartbeats 2000000 in
theorem take_any (g n : Nat) (D : List Int) (ok : Bool) (w : World) (hn : n ≤ 255) (h : StI g D ok w) :
    Calls Tryz.prog 63 #[.pointer (some ⟨g, 0, none⟩), .int .i64 n] w (RetTk g n D ok w) := by
  obtain ⟨R, hR, hB⟩ := h
  have hl : D.length = R.size := by rw [← hR]; exact byI_length R
  have HR := Lib.hid hR
  have HB := Lib.hid hB
  have x0 := hB.at 0 _ rfl
  have x1 := hB.at 1 _ rfl
  have y0 := hB.f 0
  have y1 := hB.f 1
  have hlt := hB.lt
  clear hR hB
  by_cases hle : n ≤ R.size
  · have HT : Hid (TakP D ok n (R.extract 0 n) (D.drop n) ok) := .inl ⟨by omega, by rw [byI_ext, HR.out, List.drop_zero, Nat.sub_zero], rfl, rfl⟩
    have HS : Hid (StI g (D.drop n) ok (w.setCell ⟨g, 0, none⟩ (.string (R.extract n R.size)))) := ⟨R.extract n R.size, by
      rw [byI_ext, HR.out, List.take_of_length_le]
      rw [List.length_drop]
      omega, HB.out.set 0 _ (by simp)⟩
    have n1 : ¬ (R.size : Int) < (n : Int) := by omega
    have n2 : (n : Int) ≤ (R.size : Int) := by omega
    have n3 : (0 : Int) ≤ (n : Int) := by omega
    go_enter Tryz.func63, Tryz.ntmps63
    go_wp2
    go_ret
    exact ⟨_, _, _, rfl, HT.out, HS.out, (Keep.refl g w).set _ _⟩
  · have HT : Hid (∀ out : ByteArray, byI out = List.replicate n 0 → TakP D ok n out D false) := fun out ho => .inr ⟨by omega, ho, rfl, rfl⟩
    have HS : Hid (StI g D false (w.setCell ⟨g, 1, none⟩ (.bool true))) := ⟨R, HR.out, HB.out.set 1 _ (by simp)⟩
    have HK : Hid (Keep g w (w.setCell ⟨g, 1, none⟩ (.bool true))) := (Keep.refl g w).set _ _
    have n1 : (R.size : Int) < (n : Int) := by omega
    have HRP : Hid (∀ W : World, Calls Tryz.prog 106 #[.string ⟨#[0]⟩, .int .i64 n] W fun e w' => ∃ out : ByteArray, e = .returned (.string out) ∧ byI out = List.replicate n 0 ∧ Below W.heap.size W w') := fun W => by
      by_cases h2 : 2 ≤ n
      · refine (Tryz.strings_Repeat_main ⟨#[0]⟩ n W h2 (by omega) (by show 1 * n ≤ _; omega) (by decide)).mono ?_
        rintro e w' ⟨rfl, hb⟩
        refine ⟨_, rfl, ?_, hb⟩
        exact rep_byI n
      · obtain rfl | rfl : n = 0 ∨ n = 1 := by omega
        · omega
        · refine (Tryz.strings_Repeat_one ⟨#[0]⟩ W).mono ?_
          rintro e w' ⟨rfl, rfl⟩
          exact ⟨_, rfl, rfl, Below.refl _ _⟩
    go_enter Tryz.func63, Tryz.ntmps63
    go_wp2_with fail
    refine (HRP.out _).mono ?_
    rintro e w1 ⟨out, rfl, ho, hb⟩
    have hlt2 : g < (w.setCell ⟨g, 1, none⟩ (.bool true)).heap.size := by simpa using hlt
    have HS2 : Hid (StI g D false w1) := by
      obtain ⟨R2, r1, r2⟩ := HS.out
      exact ⟨R2, r1, r2.next hb⟩
    have HK2 := Lib.hid (HK.out.trans (Keep.of hb hlt2))
    go_wp2
    go_ret
    exact ⟨_, _, _, rfl, HT.out _ ho, HS2.out, HK2.out⟩
theorem shl_or (N c k : Nat) (hN : N < 128 ^ k) : N ||| (c % 128 * 2 ^ (7 * k)) = N + c % 128 * 128 ^ k := by
  have e : (2 : Nat) ^ (7 * k) = 128 ^ k := by rw [Nat.pow_mul]
  have hN2 : N < 2 ^ (7 * k) := by rw [e]; exact hN
  have h := Nat.two_pow_add_eq_or_of_lt hN2 (c % 128)
  rw [Nat.or_comm, Nat.mul_comm (c % 128), ← h, e, Nat.mul_comm (128 ^ k), Nat.add_comm]
theorem shl_bits (N c k : Nat) (hN : N < 128 ^ k) (hk : k ≤ 8) : bits .or .u64 (N : Int) (IntKind.u64.wrap ((c : Int) % 128 * 2 ^ (7 * k))) = ((N + c % 128 * 128 ^ k : Nat) : Int) ∧ N + c % 128 * 128 ^ k < 9223372036854775808 := by
  have e : (2 : Nat) ^ (7 * k) = 128 ^ k := by rw [Nat.pow_mul]
  have hp : 128 ^ k ≤ 128 ^ 8 := Nat.pow_le_pow_right (by omega) hk
  have e8 : (128 : Nat) ^ 8 = 72057594037927936 := by decide
  have hc : c % 128 * 128 ^ k ≤ 127 * 128 ^ k := Nat.mul_le_mul_right _ (by omega)
  have e2 : ((c : Int) % 128 * 2 ^ (7 * k)) = ((c % 128 * 2 ^ (7 * k) : Nat) : Int) := by
    rw [Int.natCast_mul, Int.natCast_pow, Int.natCast_emod]; rfl
  have hw : IntKind.u64.wrap ((c % 128 * 2 ^ (7 * k) : Nat) : Int) = ((c % 128 * 2 ^ (7 * k) : Nat) : Int) := IntWalk.u64_in _ (by rw [e]; omega)
  refine ⟨?_, by omega⟩
  rw [e2, hw, bits_or_u64_nat _ _ (by omega) (by rw [e]; omega), shl_or N c k hN]
set_option maxRecDepth 100000 in
set_option maxHeartbeats 2000000 in
theorem number_any (g : Nat) (D : List Int) (ok : Bool) (w : World) (h : StI g D ok w) :
    Calls Tryz.prog 107 #[.pointer (some ⟨g, 0, none⟩)] w (RetNu (StI g) g D ok w) := by
  have H := Lib.hid h
  clear h
  go_enter Tryz.func107, Tryz.ntmps107
  go_wp2_with fail
  go_loopw [3, 4, 5] (fun s t u wr => ∃ (k N : Nat) (E : List Int) (o : Bool), k ≤ 9 ∧ s = .int .u64 N ∧ t = .int .i64 (7 * (k : Int)) ∧ Hid (NumI D ok k N E o ∧ StI g E o wr ∧ Keep g w wr)) (fun _ t _ _ => 63 - (intOf t).toNat)
  case atStart => exact ⟨0, 0, D, ok, by omega, rfl, rfl, NumI.start D ok, H.out, Keep.refl _ _⟩
  case round =>
    obtain ⟨k, N, E, o, hk, rfl, rfl, HI⟩ := hrel
    by_cases hlt : k < 9
    · have l1 : 7 * (k : Int) < 63 := by omega
      go_wp2_with fail
      refine (take_any g 1 E o _ (by omega) HI.out.2.1).mono ?_
      rintro e w1 ⟨out, E', o', rfl, ht, hs, hK⟩
      have h0 : 0 < out.size := by have := ht.size; omega
      have HB := Lib.hid (ht.byte h0)
      obtain ⟨hor, hM⟩ := shl_bits N (out[0]).toNat k HI.out.1.1 (by omega)
      have HS := Lib.hid hs
      have HK := Lib.hid (HI.out.2.2.trans hK)
      clear ht hs hK
      obtain ⟨M, hMe⟩ : ∃ M, N + (out[0]).toNat % 128 * 128 ^ k = M := ⟨_, rfl⟩
      rw [hMe] at hor hM
      have HME := Lib.hid hMe
      clear hMe
      obtain ⟨e1, e2, e3, e4, e5, e6⟩ := num_eqs hM
      have HU : Hid (unz M = if M % 2 = 1 then -((M / 2 : Nat) : Int) - 1 else ((M / 2 : Nat) : Int)) := rfl
      have e7 : 0 ≤ ((M / 2 : Nat) : Int) := by omega
      have HQ : Hid (M / 2 = M / 2) := rfl
      by_cases hc : (out[0]).toNat < 128
      · have c1 : ((out[0]).toNat : Int) < 128 := by omega
        have HP : Hid (NumP D ok (unz M) E' o') := by
          have h := NumI.done (o2 := o') HI.out.1 (by omega) HB.out hc (.inr rfl)
          rw [show (out[0]).toNat = (out[0]).toNat % 128 from (Nat.mod_eq_of_lt hc).symm, HME.out] at h
          exact h
        by_cases h2 : M % 2 = 1
        · have m1 : (M : Int) % 2 = 1 := by omega
          rw [HU.out, if_pos h2] at HP
          generalize ((M / 2 : Nat) : Int) = Q at *
          clear HI HME HU
          go_wp2
          go_ret
          exact ⟨_, _, _, rfl, HP.out, HS.out, HK.out⟩
        · have m1 : (M : Int) % 2 = 0 := by omega
          rw [HU.out, if_neg h2] at HP
          generalize ((M / 2 : Nat) : Int) = Q at *
          clear HI HME HU
          go_wp2
          go_ret
          exact ⟨_, _, _, rfl, HP.out, HS.out, HK.out⟩
      · have c1 : ¬ ((out[0]).toNat : Int) < 128 := by omega
        have HP : Hid (NumI D ok (k + 1) M E' o') := by
          have h := HI.out.1.step HB.out (by omega)
          rw [HME.out] at h
          exact h
        have w1 : IntKind.i64.wrap (7 * (k : Int) + 7) = 7 * (k : Int) + 7 := IntWalk.i64_in _ (by omega)
        clear HI HME HU e1 e2 e3 e4 e5 e6 e7
        go_wp2
        go_roundw
        case rel => exact ⟨k + 1, M, E', o', by omega, rfl, by congr 1, HP.out, HS.out, HK.out⟩
        case measure => simp [intOf]; omega
    · have l1 : ¬ 7 * (k : Int) < 63 := by omega
      obtain ⟨R, hR, hB⟩ := HI.out.2.1
      have x1 := hB.at 1 _ rfl
      have y1 := hB.f 1
      have HS : Hid (StI g E false (wr.setCell ⟨g, 1, none⟩ (.bool true))) := ⟨R, hR, hB.set 1 _ (by simp)⟩
      have HK : Hid (Keep g w (wr.setCell ⟨g, 1, none⟩ (.bool true))) := HI.out.2.2.set _ _
      have HP : Hid (NumP D ok 0 E false) := HI.out.1.out (by omega)
      clear HI hR
      go_wp2
      go_ret
      exact ⟨_, _, _, rfl, HP.out, HS.out, HK.out⟩
end Go.Proofs.YtpnabggpdgjbmaaGreatDoor
