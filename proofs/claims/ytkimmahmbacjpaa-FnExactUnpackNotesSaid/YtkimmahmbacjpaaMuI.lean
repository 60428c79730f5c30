/- XUnpIW XUnpJW in one text. No condition but those that each theorem names. -/
import Derived.Test.YtkimmahmbacjpaaMuP
import Derived.Test.YtkimmahmbacjpaaBoxW
import Derived.Test.YtkimmahmbacjpaaSrcW
import Derived.Test.YtkimmahmbacjpaaShelf
import Derived.Deep.RegionLaw
import Derived.Deep.AppendLies
/- The program's reader of packed bytes: the walks. No condition but those that each theorem names. -/
namespace Go.Proofs.Ytkimmahmbacjpaa
open Go.RowKit Go.Sort

/-- A reader: what lies ahead, and whether all went well. -/
def StI (g : Nat) (D : List Int) (ok : Bool) (W : World) : Prop := ∃ R : ByteArray, byI R = D ∧ BoxV g [.string R, .bool (!ok)] W
theorem StI.lt {g : Nat} {D : List Int} {ok : Bool} {W : World} (h : StI g D ok W) : g < W.heap.size := by obtain ⟨R, _, hB⟩ := h; exact hB.lt
theorem StI.next {g : Nat} {D : List Int} {ok : Bool} {W W' : World} (h : StI g D ok W) (hb : Below W.heap.size W W') : StI g D ok W' := by obtain ⟨R, hR, hB⟩ := h; exact ⟨R, hR, hB.next hb⟩
theorem StI.put {g b j : Nat} {D : List Int} {ok : Bool} {W : World} (h : StI g D ok W) (hb : b ≠ g) (u : Value) : StI g D ok (W.setCell ⟨b, j, none⟩ u) := by obtain ⟨R, hR, hB⟩ := h; exact ⟨R, hR, hB.setFar u hb⟩
theorem StI.grown {g : Nat} {D : List Int} {ok : Bool} {W W' : World} {row : Option Nat} (h : StI g D ok W) (hg : W.grownBy W' row) (hn : row ≠ some g) : StI g D ok W' := by obtain ⟨R, hR, hB⟩ := h; exact ⟨R, hR, hB.grown hg hn⟩
/-- What a reader that takes n bytes tells. -/
def TakP (D : List Int) (ok : Bool) (n : Nat) (out : ByteArray) (D' : List Int) (ok' : Bool) : Prop :=
  (n ≤ D.length ∧ byI out = D.take n ∧ D' = D.drop n ∧ ok' = ok) ∨ (D.length < n ∧ byI out = List.replicate n 0 ∧ D' = D ∧ ok' = false)
theorem TakP.size {D : List Int} {ok : Bool} {n : Nat} {out : ByteArray} {D' : List Int} {ok' : Bool} (h : TakP D ok n out D' ok') : out.size = n := by
  rcases h with ⟨h1, h2, _⟩ | ⟨_, h2, _⟩
  · have := congrArg List.length h2
    rw [byI_length, List.length_take] at this
    omega
  · have := congrArg List.length h2
    rw [byI_length, List.length_replicate] at this
    exact this
theorem TakP.byte {D : List Int} {ok : Bool} {out : ByteArray} {D' : List Int} {ok' : Bool} (h : TakP D ok 1 out D' ok') (h0 : 0 < out.size) : BytP D ok (out[0]).toNat D' ok' := by
  have hg := byI_get h0
  refine ⟨by have := (out[0]).toNat_lt; omega, ?_⟩
  rcases h with ⟨h1, h2, h3, h4⟩ | ⟨h1, h2, h3, h4⟩
  · left
    rw [h2] at hg
    cases D with
    | nil => simp at h1
    | cons d D =>
      simp at hg h3
      exact ⟨by rw [h3, hg], h4⟩
  · right
    rw [h2] at hg
    simp at hg
    exact ⟨h4, h3, by omega, .inl (List.length_eq_zero_iff.1 (by omega))⟩
theorem TakP.nam {D : List Int} {ok : Bool} {n : Nat} {out : ByteArray} {D' : List Int} {ok' : Bool} (h : TakP D ok n out D' ok') {R : ByteArray} (hR : byI R = D) (hn : n ≤ 255) : NamP D ok n out D' ok' := by
  have hz := h.size
  have hl : D.length = R.size := by rw [← hR]; exact byI_length R
  rcases h with ⟨h1, h2, h3, h4⟩ | ⟨h1, h2, h3, h4⟩
  · subst h4
    exact NamP.of hR (by omega) hn h2 h3
  · subst h3 h4
    exact NamP.short h1 (by omega)
/-- What a reader's call returns. -/
def RetSt (g : Nat) (w : World) (D' : List Int) (ok' : Bool) (w' : World) : Prop := StI g D' ok' w' ∧ Keep g w w'
theorem rep_byI (n : Nat) : byI ⟨(Lib.repeatL [0] n).toArray⟩ = List.replicate n 0 := by
  have h : ∀ n, (Lib.repeatL [0] n).map (fun b : UInt8 => (b.toNat : Int)) = List.replicate n 0 := by
    intro n
    induction n with
    | zero => rfl
    | succ n ih => rw [Lib.repeatL, List.map_append, ih, List.replicate_succ]; rfl
  show ((Lib.repeatL [0] n).toArray.toList).map _ = _
  exact h n
/-- What a reader that takes n bytes returns. -/
def RetTk (g n : Nat) (D : List Int) (ok : Bool) (w : World) (e : Ending) (w' : World) : Prop := ∃ out D' ok', e = .returned (.string out) ∧ TakP D ok n out D' ok' ∧ StI g D' ok' w' ∧ Keep g w w'
/-- What a reader of a number returns. -/
def RetNu (S : List Int → Bool → World → Prop) (g : Nat) (D : List Int) (ok : Bool) (w : World) (e : Ending) (w' : World) : Prop := ∃ n D' ok', e = .returned (.int .i64 n) ∧ NumP D ok n D' ok' ∧ S D' ok' w' ∧ Keep g w w'
theorem num_eqs {M : Nat} (hM : M < 9223372036854775808) : (M : Int).tdiv 2 = ((M / 2 : Nat) : Int) ∧ (M : Int) / 2 = ((M / 2 : Nat) : Int) ∧ IntKind.u64.wrap ((M / 2 : Nat) : Int) = ((M / 2 : Nat) : Int) ∧ IntKind.i64.wrap ((M / 2 : Nat) : Int) = ((M / 2 : Nat) : Int) ∧
    IntKind.i64.wrap (-((M / 2 : Nat) : Int)) = -((M / 2 : Nat) : Int) ∧ IntKind.i64.wrap (-((M / 2 : Nat) : Int) - 1) = -((M / 2 : Nat) : Int) - 1 :=
  ⟨by rw [Int.tdiv_eq_ediv_of_nonneg (by omega)]; omega, by omega, IntWalk.u64_in _ (by omega), IntWalk.i64_in _ (by omega), IntWalk.i64_in _ (by omega), IntWalk.i64_in _ (by omega)⟩
set_option maxRecDepth 100000 in
set_option maxHeartbeats 2000000 in
theorem take_any (g n : Nat) (D : List Int) (ok : Bool) (w : World) (hn : n ≤ 255) (h : StI g D ok w) :
    Calls Try.prog 24 #[.pointer (some ⟨g, 0, none⟩), .int .i64 n] w (RetTk g n D ok w) := by
  obtain ⟨R, hR, hB⟩ := h
  have hl : D.length = R.size := by rw [← hR]; exact byI_length R
  have HR := Lib.hid hR
  have HB := Lib.hid hB
  have x0 := hB.at 0 _ rfl
  have x1 := hB.at 1 _ rfl
  have y0 := hB.f 0
  have y1 := hB.f 1
  have hlt := hB.lt
  clear hR hB
  by_cases hle : n ≤ R.size
  · have HT : Hid (TakP D ok n (R.extract 0 n) (D.drop n) ok) := .inl ⟨by omega, by rw [byI_ext, HR.out, List.drop_zero, Nat.sub_zero], rfl, rfl⟩
    have HS : Hid (StI g (D.drop n) ok (w.setCell ⟨g, 0, none⟩ (.string (R.extract n R.size)))) := ⟨R.extract n R.size, by
      rw [byI_ext, HR.out, List.take_of_length_le]
      rw [List.length_drop]
      omega, HB.out.set 0 _ (by simp)⟩
    have n1 : ¬ (R.size : Int) < (n : Int) := by omega
    have n2 : (n : Int) ≤ (R.size : Int) := by omega
    have n3 : (0 : Int) ≤ (n : Int) := by omega
    go_enter Try.func24, Try.ntmps24
    go_wp2
    go_ret
    exact ⟨_, _, _, rfl, HT.out, HS.out, (Keep.refl g w).set _ _⟩
  · have HT : Hid (∀ out : ByteArray, byI out = List.replicate n 0 → TakP D ok n out D false) := fun out ho => .inr ⟨by omega, ho, rfl, rfl⟩
    have HS : Hid (StI g D false (w.setCell ⟨g, 1, none⟩ (.bool true))) := ⟨R, HR.out, HB.out.set 1 _ (by simp)⟩
    have HK : Hid (Keep g w (w.setCell ⟨g, 1, none⟩ (.bool true))) := (Keep.refl g w).set _ _
    have n1 : (R.size : Int) < (n : Int) := by omega
    have HRP : Hid (∀ W : World, Calls Try.prog 52 #[.string ⟨#[0]⟩, .int .i64 n] W fun e w' => ∃ out : ByteArray, e = .returned (.string out) ∧ byI out = List.replicate n 0 ∧ Below W.heap.size W w') := fun W => by
      by_cases h2 : 2 ≤ n
      · refine (Try.strings_Repeat_main ⟨#[0]⟩ n W h2 (by omega) (by show 1 * n ≤ _; omega) (by decide)).mono ?_
        rintro e w' ⟨rfl, hb⟩
        refine ⟨_, rfl, ?_, hb⟩
        exact rep_byI n
      · obtain rfl | rfl : n = 0 ∨ n = 1 := by omega
        · omega
        · refine (Try.strings_Repeat_one ⟨#[0]⟩ W).mono ?_
          rintro e w' ⟨rfl, rfl⟩
          exact ⟨_, rfl, rfl, Below.refl _ _⟩
    go_enter Try.func24, Try.ntmps24
    go_wp2_with fail
    refine (HRP.out _).mono ?_
    rintro e w1 ⟨out, rfl, ho, hb⟩
    have hlt2 : g < (w.setCell ⟨g, 1, none⟩ (.bool true)).heap.size := by simpa using hlt
    have HS2 : Hid (StI g D false w1) := by
      obtain ⟨R2, r1, r2⟩ := HS.out
      exact ⟨R2, r1, r2.next hb⟩
    have HK2 := Lib.hid (HK.out.trans (Keep.of hb hlt2))
    go_wp2
    go_ret
    exact ⟨_, _, _, rfl, HT.out _ ho, HS2.out, HK2.out⟩
theorem shl_or (N c k : Nat) (hN : N < 128 ^ k) : N ||| (c % 128 * 2 ^ (7 * k)) = N + c % 128 * 128 ^ k := by
  have e : (2 : Nat) ^ (7 * k) = 128 ^ k := by rw [Nat.pow_mul]
  have hN2 : N < 2 ^ (7 * k) := by rw [e]; exact hN
  have h := Nat.two_pow_add_eq_or_of_lt hN2 (c % 128)
  rw [Nat.or_comm, Nat.mul_comm (c % 128), ← h, e, Nat.mul_comm (128 ^ k), Nat.add_comm]
theorem shl_bits (N c k : Nat) (hN : N < 128 ^ k) (hk : k ≤ 8) : bits .or .u64 (N : Int) (IntKind.u64.wrap ((c : Int) % 128 * 2 ^ (7 * k))) = ((N + c % 128 * 128 ^ k : Nat) : Int) ∧ N + c % 128 * 128 ^ k < 9223372036854775808 := by
  have e : (2 : Nat) ^ (7 * k) = 128 ^ k := by rw [Nat.pow_mul]
  have hp : 128 ^ k ≤ 128 ^ 8 := Nat.pow_le_pow_right (by omega) hk
  have e8 : (128 : Nat) ^ 8 = 72057594037927936 := by decide
  have hc : c % 128 * 128 ^ k ≤ 127 * 128 ^ k := Nat.mul_le_mul_right _ (by omega)
  have e2 : ((c : Int) % 128 * 2 ^ (7 * k)) = ((c % 128 * 2 ^ (7 * k) : Nat) : Int) := by
    rw [Int.natCast_mul, Int.natCast_pow, Int.natCast_emod]; rfl
  have hw : IntKind.u64.wrap ((c % 128 * 2 ^ (7 * k) : Nat) : Int) = ((c % 128 * 2 ^ (7 * k) : Nat) : Int) := IntWalk.u64_in _ (by rw [e]; omega)
  refine ⟨?_, by omega⟩
  rw [e2, hw, bits_or_u64_nat _ _ (by omega) (by rw [e]; omega), shl_or N c k hN]
set_option maxRecDepth 100000 in
set_option maxHeartbeats 2000000 in
theorem number_any (g : Nat) (D : List Int) (ok : Bool) (w : World) (h : StI g D ok w) :
    Calls Try.prog 53 #[.pointer (some ⟨g, 0, none⟩)] w (RetNu (StI g) g D ok w) := by
  have H := Lib.hid h
  clear h
  go_enter Try.func53, Try.ntmps53
  go_wp2_with fail
  go_loopw [3, 4, 5] (fun s t u wr => ∃ (k N : Nat) (E : List Int) (o : Bool), k ≤ 9 ∧ s = .int .u64 N ∧ t = .int .i64 (7 * (k : Int)) ∧ Hid (NumI D ok k N E o ∧ StI g E o wr ∧ Keep g w wr)) (fun _ t _ _ => 63 - (intOf t).toNat)
  case atStart => exact ⟨0, 0, D, ok, by omega, rfl, rfl, NumI.start D ok, H.out, Keep.refl _ _⟩
  case round =>
    obtain ⟨k, N, E, o, hk, rfl, rfl, HI⟩ := hrel
    by_cases hlt : k < 9
    · have l1 : 7 * (k : Int) < 63 := by omega
      go_wp2_with fail
      refine (take_any g 1 E o _ (by omega) HI.out.2.1).mono ?_
      rintro e w1 ⟨out, E', o', rfl, ht, hs, hK⟩
      have h0 : 0 < out.size := by have := ht.size; omega
      have HB := Lib.hid (ht.byte h0)
      obtain ⟨hor, hM⟩ := shl_bits N (out[0]).toNat k HI.out.1.1 (by omega)
      have HS := Lib.hid hs
      have HK := Lib.hid (HI.out.2.2.trans hK)
      clear ht hs hK
      obtain ⟨M, hMe⟩ : ∃ M, N + (out[0]).toNat % 128 * 128 ^ k = M := ⟨_, rfl⟩
      rw [hMe] at hor hM
      have HME := Lib.hid hMe
      clear hMe
      obtain ⟨e1, e2, e3, e4, e5, e6⟩ := num_eqs hM
      have HU : Hid (unz M = if M % 2 = 1 then -((M / 2 : Nat) : Int) - 1 else ((M / 2 : Nat) : Int)) := rfl
      have e7 : 0 ≤ ((M / 2 : Nat) : Int) := by omega
      have HQ : Hid (M / 2 = M / 2) := rfl
      by_cases hc : (out[0]).toNat < 128
      · have c1 : ((out[0]).toNat : Int) < 128 := by omega
        have HP : Hid (NumP D ok (unz M) E' o') := by
          have h := NumI.done (o2 := o') HI.out.1 (by omega) HB.out hc (.inr rfl)
          rw [show (out[0]).toNat = (out[0]).toNat % 128 from (Nat.mod_eq_of_lt hc).symm, HME.out] at h
          exact h
        by_cases h2 : M % 2 = 1
        · have m1 : (M : Int) % 2 = 1 := by omega
          rw [HU.out, if_pos h2] at HP
          generalize ((M / 2 : Nat) : Int) = Q at *
          clear HI HME HU
          go_wp2
          go_ret
          exact ⟨_, _, _, rfl, HP.out, HS.out, HK.out⟩
        · have m1 : (M : Int) % 2 = 0 := by omega
          rw [HU.out, if_neg h2] at HP
          generalize ((M / 2 : Nat) : Int) = Q at *
          clear HI HME HU
          go_wp2
          go_ret
          exact ⟨_, _, _, rfl, HP.out, HS.out, HK.out⟩
      · have c1 : ¬ ((out[0]).toNat : Int) < 128 := by omega
        have HP : Hid (NumI D ok (k + 1) M E' o') := by
          have h := HI.out.1.step HB.out (by omega)
          rw [HME.out] at h
          exact h
        have w1 : IntKind.i64.wrap (7 * (k : Int) + 7) = 7 * (k : Int) + 7 := IntWalk.i64_in _ (by omega)
        clear HI HME HU e1 e2 e3 e4 e5 e6 e7
        go_wp2
        go_roundw
        case rel => exact ⟨k + 1, M, E', o', by omega, rfl, by congr 1, HP.out, HS.out, HK.out⟩
        case measure => simp [intOf]; omega
    · have l1 : ¬ 7 * (k : Int) < 63 := by omega
      obtain ⟨R, hR, hB⟩ := HI.out.2.1
      have x1 := hB.at 1 _ rfl
      have y1 := hB.f 1
      have HS : Hid (StI g E false (wr.setCell ⟨g, 1, none⟩ (.bool true))) := ⟨R, hR, hB.set 1 _ (by simp)⟩
      have HK : Hid (Keep g w (wr.setCell ⟨g, 1, none⟩ (.bool true))) := HI.out.2.2.set _ _
      have HP : Hid (NumP D ok 0 E false) := HI.out.1.out (by omega)
      clear HI hR
      go_wp2
      go_ret
      exact ⟨_, _, _, rfl, HP.out, HS.out, HK.out⟩
end Go.Proofs.Ytkimmahmbacjpaa

/- The program's reader of notes: the walks. No condition but those that each theorem names. -/
namespace Go.Proofs.Ytkimmahmbacjpaa
open Go.RowKit Go.Sort

set_option maxRecDepth 100000 in
set_option maxHeartbeats 8000000 in
theorem note_any (g : Nat) (D : List Int) (ok : Bool) (w : World) (h : StI g D ok w) (hD : D.length ≤ 1048576) :
    Calls Try.prog 25 #[.pointer (some ⟨g, 0, none⟩)] w (RetUn (StI g) g D ok w) := by
  obtain ⟨ti, hi, hz0, hz1, hz2⟩ := info_parts info64
  have HI := Lib.hid hi
  have HG := Lib.hid h.lt
  have H := Lib.hid (h.next (ext1 w (.cells #[.string ⟨#[]⟩, .int .i64 0, .int .i64 0, .int .i64 0, .slice none 0 0, .int .i64 0, .int .i64 0, .int .i64 0] 36)))
  have K := Lib.hid (Keep.of (ext1 w (.cells #[.string ⟨#[]⟩, .int .i64 0, .int .i64 0, .int .i64 0, .slice none 0 0, .int .i64 0, .int .i64 0, .int .i64 0] 36)) h.lt)
  have R := Lib.hid (BoxV.new w #[.string ⟨#[]⟩, .int .i64 0, .int .i64 0, .int .i64 0, .slice none 0 0, .int .i64 0, .int .i64 0, .int .i64 0] 36)
  clear h hi
  go_enter Try.func25, Try.ntmps25
  go_wp2_with fail
  generalize w.alloc (.cells #[.string ⟨#[]⟩, .int .i64 0, .int .i64 0, .int .i64 0, .slice none 0 0, .int .i64 0, .int .i64 0, .int .i64 0] 36) = W0 at *
  refine (take_any g 1 D ok _ (by omega) H.out).mono ?_
  rintro e w1 ⟨out, D1, o1, rfl, ht, S1, K1⟩
  have h0 : 0 < out.size := by have := ht.size; omega
  obtain ⟨c, hc⟩ : ∃ c, (out[0]).toNat = c := ⟨_, rfl⟩
  have hb := ht.byte h0
  rw [hc] at hb
  have HB1 := Lib.hid hb
  have HS1 := Lib.hid S1
  replace K := Lib.hid (K.out.trans K1)
  replace R := Lib.hid (R.out.keepU K1 (by have := HG.out; omega))
  have hc5 : c ≤ 255 := hb.1
  have hcc : ((out[0]).toNat : Int) = (c : Int) := by rw [hc]
  have hcw : IntKind.i64.wrap (c : Int) = (c : Int) := IntWalk.i64_in _ (by omega)
  clear ht S1 K1 H hc hb
  go_wp2_with fail
  refine (take_any g c D1 o1 _ hc5 HS1.out).mono ?_
  rintro e w2 ⟨nm, D2, o2, rfl, ht, S1, K1⟩
  have HN : Hid (NamP D1 o1 c nm D2 o2) := by
    obtain ⟨R1, hR1, _⟩ := HS1.out
    exact ht.nam hR1 hc5
  replace K := Lib.hid (K.out.trans K1)
  replace R := Lib.hid (R.out.keepU K1 (by have := HG.out; omega))
  have e1 := ext1 w2 (.cells #[.string nm, .int .i64 0, .int .i64 0, .int .i64 0, .slice none 0 0, .int .i64 0, .int .i64 0, .int .i64 0] 36)
  have H : Hid (StI g D2 o2 (w2.alloc (.cells #[.string nm, .int .i64 0, .int .i64 0, .int .i64 0, .slice none 0 0, .int .i64 0, .int .i64 0, .int .i64 0] 36))) := S1.next e1
  have T : Hid (UI g w2.heap.size ⟨nm, 0, 0, 0, [], 0, 0, 0⟩ (.slice none 0 0) w (w2.alloc (.cells #[.string nm, .int .i64 0, .int .i64 0, .int .i64 0, .slice none 0 0, .int .i64 0, .int .i64 0, .int .i64 0] 36))) :=
    ⟨K.out.trans (Keep.of e1 S1.lt), R.out.next e1, BoxV.new _ _ _, by simpa using World.ownsRow_nil _ (w.heap.size + 1) 2 1, by simp [Value.ownBlock], R.out.lt, HG.out⟩
  clear ht S1 K1 e1 K R HS1 hcc hcw
  go_wp2_with fail
  generalize w2.alloc (.cells #[.string nm, .int .i64 0, .int .i64 0, .int .i64 0, .slice none 0 0, .int .i64 0, .int .i64 0, .int .i64 0] 36) = W2 at *
  refine (take_any g 1 D2 o2 _ (by omega) H.out).mono ?_
  rintro e w3 ⟨out2, D3, o3, rfl, ht, S1, K1⟩
  generalize w2.heap.size = b at *
  have h0 : 0 < out2.size := by have := ht.size; omega
  obtain ⟨kd, hkd⟩ : ∃ kd, (out2[0]).toNat = kd := ⟨_, rfl⟩
  have hb := ht.byte h0
  rw [hkd] at hb
  have HED := Lib.hid (HedP.of HB1.out HN.out hb)
  replace T := Lib.hid (T.out.kept K1)
  have hk5 : kd ≤ 255 := hb.1
  have HH3 : Hid (∀ k : Int, StI g D3 o3 (w3.setCell ⟨b, 1, none⟩ (.int .i64 k))) := fun k => S1.put (by have := T.out.hb; have := T.out.hg; omega) _
  have HT3 : Hid (∀ k : Int, UI g b ⟨nm, k, 0, 0, [], 0, 0, 0⟩ (.slice none 0 0) w (w3.setCell ⟨b, 1, none⟩ (.int .i64 k))) := fun k => T.out.kind k
  clear ht S1 K1 hb HB1 HN H
  have Q := Lib.hid (SeqP.nil D3 o3)
  by_cases hka : kd = 1
  · skip
    subst hka
    have hcc : ((out2[0]).toNat : Int) = 1 := by rw [hkd]; rfl
    have hcw : IntKind.i64.wrap 1 = 1 := by decide
    have u0 := T.out.s.at 0 _ rfl
    have v0 := T.out.s.f 0
    have u1 := T.out.s.at 1 _ rfl
    have v1 := T.out.s.f 1
    have u2 := T.out.s.at 2 _ rfl
    have v2 := T.out.s.f 2
    have u3 := T.out.s.at 3 _ rfl
    have v3 := T.out.s.f 3
    have u4 := T.out.s.at 4 _ rfl
    have v4 := T.out.s.f 4
    have u5 := T.out.s.at 5 _ rfl
    have v5 := T.out.s.f 5
    have u6 := T.out.s.at 6 _ rfl
    have v6 := T.out.s.f 6
    have u7 := T.out.s.at 7 _ rfl
    have v7 := T.out.s.f 7
    have H := Lib.hid (HH3.out 1)
    replace T := Lib.hid (HT3.out 1)
    clear HH3 HT3 hk5
    go_upto_region 3 with fail
    generalize w3.setCell ⟨b, 1, none⟩ (.int .i64 1) = W3 at *
    clear u0 v0 u1 v1 u2 v2 u3 v3 u4 v4 u5 v5 u6 v6 u7 v7
    have u0 := T.out.s.at 0 _ rfl
    have v0 := T.out.s.f 0
    have u1 := T.out.s.at 1 _ rfl
    have v1 := T.out.s.f 1
    have u2 := T.out.s.at 2 _ rfl
    have v2 := T.out.s.f 2
    have u3 := T.out.s.at 3 _ rfl
    have v3 := T.out.s.f 3
    have u4 := T.out.s.at 4 _ rfl
    have v4 := T.out.s.f 4
    have u5 := T.out.s.at 5 _ rfl
    have v5 := T.out.s.f 5
    have u6 := T.out.s.at 6 _ rfl
    have v6 := T.out.s.f 6
    have u7 := T.out.s.at 7 _ rfl
    have v7 := T.out.s.f 7
    go_wp2_with fail
    refine (number_any g _ _ _ H.out).mono ?_
    rintro e w5 ⟨n1, E_n1, o_n1, rfl, hn, S5, K5⟩
    replace Q := Lib.hid (SeqP.snoc Q.out hn)
    replace T := Lib.hid (T.out.kept K5)
    replace H := Lib.hid (S5.put (b := b) (j := 2) (by have := T.out.hb; have := T.out.hg; omega) (.int .i64 n1))
    clear hn S5 K5
    have u0 := T.out.s.at 0 _ rfl
    have v0 := T.out.s.f 0
    have u1 := T.out.s.at 1 _ rfl
    have v1 := T.out.s.f 1
    have u2 := T.out.s.at 2 _ rfl
    have v2 := T.out.s.f 2
    have u3 := T.out.s.at 3 _ rfl
    have v3 := T.out.s.f 3
    have u4 := T.out.s.at 4 _ rfl
    have v4 := T.out.s.f 4
    have u5 := T.out.s.at 5 _ rfl
    have v5 := T.out.s.f 5
    have u6 := T.out.s.at 6 _ rfl
    have v6 := T.out.s.f 6
    have u7 := T.out.s.at 7 _ rfl
    have v7 := T.out.s.f 7
    replace T := Lib.hid (T.out.num n1)
    go_upto_region 6 with fail
    generalize w5.setCell ⟨b, 2, none⟩ (.int .i64 n1) = W5 at *
    clear u0 v0 u1 v1 u2 v2 u3 v3 u4 v4 u5 v5 u6 v6 u7 v7
    go_wp2_with fail
    refine (number_any g _ _ _ H.out).mono ?_
    rintro e w5 ⟨n2, E_n2, o_n2, rfl, hn, S5, K5⟩
    replace Q := Lib.hid (SeqP.snoc Q.out hn)
    replace T := Lib.hid (T.out.kept K5)
    replace H := Lib.hid (S5.put (b := b) (j := 3) (by have := T.out.hb; have := T.out.hg; omega) (.int .i64 n2))
    clear hn S5 K5
    have u0 := T.out.s.at 0 _ rfl
    have v0 := T.out.s.f 0
    have u1 := T.out.s.at 1 _ rfl
    have v1 := T.out.s.f 1
    have u2 := T.out.s.at 2 _ rfl
    have v2 := T.out.s.f 2
    have u3 := T.out.s.at 3 _ rfl
    have v3 := T.out.s.f 3
    have u4 := T.out.s.at 4 _ rfl
    have v4 := T.out.s.f 4
    have u5 := T.out.s.at 5 _ rfl
    have v5 := T.out.s.f 5
    have u6 := T.out.s.at 6 _ rfl
    have v6 := T.out.s.f 6
    have u7 := T.out.s.at 7 _ rfl
    have v7 := T.out.s.f 7
    replace T := Lib.hid (T.out.den n2)
    go_upto_region 16 with fail
    generalize w5.setCell ⟨b, 3, none⟩ (.int .i64 n2) = W5 at *
    clear u0 v0 u1 v1 u2 v2 u3 v3 u4 v4 u5 v5 u6 v6 u7 v7
    have u0 := T.out.s.at 0 _ rfl
    have v0 := T.out.s.f 0
    have u1 := T.out.s.at 1 _ rfl
    have v1 := T.out.s.f 1
    have u2 := T.out.s.at 2 _ rfl
    have v2 := T.out.s.f 2
    have u3 := T.out.s.at 3 _ rfl
    have v3 := T.out.s.f 3
    have u4 := T.out.s.at 4 _ rfl
    have v4 := T.out.s.f 4
    have u5 := T.out.s.at 5 _ rfl
    have v5 := T.out.s.f 5
    have u6 := T.out.s.at 6 _ rfl
    have v6 := T.out.s.f 6
    have u7 := T.out.s.at 7 _ rfl
    have v7 := T.out.s.f 7
    have r0 := T.out.r.at 0 _ rfl
    have f0 := T.out.r.f 0
    have r1 := T.out.r.at 1 _ rfl
    have f1 := T.out.r.f 1
    have r2 := T.out.r.at 2 _ rfl
    have f2 := T.out.r.f 2
    have r3 := T.out.r.at 3 _ rfl
    have f3 := T.out.r.f 3
    have r4 := T.out.r.at 4 _ rfl
    have f4 := T.out.r.f 4
    have r5 := T.out.r.at 5 _ rfl
    have f5 := T.out.r.f 5
    have r6 := T.out.r.at 6 _ rfl
    have f6 := T.out.r.f 6
    have r7 := T.out.r.at 7 _ rfl
    have f7 := T.out.r.f 7
    have HE := Lib.hid (UI.fin T.out)
    have HH : Hid (∀ a0 a1 a2 a3 a4 a5 a6 a7, StI g _ _ ((((((((W5.setCell ⟨w.heap.size, 0, none⟩ a0).setCell ⟨w.heap.size, 1, none⟩ a1).setCell ⟨w.heap.size, 2, none⟩ a2).setCell ⟨w.heap.size, 3, none⟩ a3).setCell ⟨w.heap.size, 4, none⟩ a4).setCell ⟨w.heap.size, 5, none⟩ a5).setCell ⟨w.heap.size, 6, none⟩ a6).setCell ⟨w.heap.size, 7, none⟩ a7)) := fun a0 a1 a2 a3 a4 a5 a6 a7 => by
      have hne : w.heap.size ≠ g := by have := HG.out; omega
      iterate 8 (refine StI.put ?_ hne _)
      exact H.out
    have HP := Lib.hid (NotP.one HED.out Q.out)
    clear T H
    go_wp2
    refine bodyPost_ret ?_ rfl ⟨⟨nm, 1, n1, n2, [], 0, 0, 0⟩, _, _, _, rfl, HP.out, HH.out _ _ _ _ _ _ _ _, (HE.out _ _ _ _ _ _ _ _).2, (HE.out _ _ _ _ _ _ _ _).1⟩
    simp [results, Try.results25, go_sem, r0, r1, r2, r3, r4, r5, r6, r7]
  by_cases hkc : kd = 3
  · skip
    subst hkc
    have hcc : ((out2[0]).toNat : Int) = 3 := by rw [hkd]; rfl
    have hcw : IntKind.i64.wrap 3 = 3 := by decide
    have u0 := T.out.s.at 0 _ rfl
    have v0 := T.out.s.f 0
    have u1 := T.out.s.at 1 _ rfl
    have v1 := T.out.s.f 1
    have u2 := T.out.s.at 2 _ rfl
    have v2 := T.out.s.f 2
    have u3 := T.out.s.at 3 _ rfl
    have v3 := T.out.s.f 3
    have u4 := T.out.s.at 4 _ rfl
    have v4 := T.out.s.f 4
    have u5 := T.out.s.at 5 _ rfl
    have v5 := T.out.s.f 5
    have u6 := T.out.s.at 6 _ rfl
    have v6 := T.out.s.f 6
    have u7 := T.out.s.at 7 _ rfl
    have v7 := T.out.s.f 7
    have H := Lib.hid (HH3.out 3)
    replace T := Lib.hid (HT3.out 3)
    clear HH3 HT3 hk5
    go_upto_region 3 with fail
    generalize w3.setCell ⟨b, 1, none⟩ (.int .i64 3) = W3 at *
    clear u0 v0 u1 v1 u2 v2 u3 v3 u4 v4 u5 v5 u6 v6 u7 v7
    have u0 := T.out.s.at 0 _ rfl
    have v0 := T.out.s.f 0
    have u1 := T.out.s.at 1 _ rfl
    have v1 := T.out.s.f 1
    have u2 := T.out.s.at 2 _ rfl
    have v2 := T.out.s.f 2
    have u3 := T.out.s.at 3 _ rfl
    have v3 := T.out.s.f 3
    have u4 := T.out.s.at 4 _ rfl
    have v4 := T.out.s.f 4
    have u5 := T.out.s.at 5 _ rfl
    have v5 := T.out.s.f 5
    have u6 := T.out.s.at 6 _ rfl
    have v6 := T.out.s.f 6
    have u7 := T.out.s.at 7 _ rfl
    have v7 := T.out.s.f 7
    go_wp2_with fail
    refine (number_any g _ _ _ H.out).mono ?_
    rintro e w5 ⟨n1, E_n1, o_n1, rfl, hn, S5, K5⟩
    replace Q := Lib.hid (SeqP.snoc Q.out hn)
    replace T := Lib.hid (T.out.kept K5)
    replace H := Lib.hid (S5.put (b := b) (j := 5) (by have := T.out.hb; have := T.out.hg; omega) (.int .i64 n1))
    clear hn S5 K5
    have u0 := T.out.s.at 0 _ rfl
    have v0 := T.out.s.f 0
    have u1 := T.out.s.at 1 _ rfl
    have v1 := T.out.s.f 1
    have u2 := T.out.s.at 2 _ rfl
    have v2 := T.out.s.f 2
    have u3 := T.out.s.at 3 _ rfl
    have v3 := T.out.s.f 3
    have u4 := T.out.s.at 4 _ rfl
    have v4 := T.out.s.f 4
    have u5 := T.out.s.at 5 _ rfl
    have v5 := T.out.s.f 5
    have u6 := T.out.s.at 6 _ rfl
    have v6 := T.out.s.f 6
    have u7 := T.out.s.at 7 _ rfl
    have v7 := T.out.s.f 7
    replace T := Lib.hid (T.out.sp n1)
    go_upto_region 14 with fail
    generalize w5.setCell ⟨b, 5, none⟩ (.int .i64 n1) = W5 at *
    clear u0 v0 u1 v1 u2 v2 u3 v3 u4 v4 u5 v5 u6 v6 u7 v7
    go_wp2_with fail
    refine (number_any g _ _ _ H.out).mono ?_
    rintro e w5 ⟨n2, E_n2, o_n2, rfl, hn, S5, K5⟩
    replace Q := Lib.hid (SeqP.snoc Q.out hn)
    replace T := Lib.hid (T.out.kept K5)
    replace H := Lib.hid (S5.put (b := b) (j := 6) (by have := T.out.hb; have := T.out.hg; omega) (.int .i64 n2))
    clear hn S5 K5
    have u0 := T.out.s.at 0 _ rfl
    have v0 := T.out.s.f 0
    have u1 := T.out.s.at 1 _ rfl
    have v1 := T.out.s.f 1
    have u2 := T.out.s.at 2 _ rfl
    have v2 := T.out.s.f 2
    have u3 := T.out.s.at 3 _ rfl
    have v3 := T.out.s.f 3
    have u4 := T.out.s.at 4 _ rfl
    have v4 := T.out.s.f 4
    have u5 := T.out.s.at 5 _ rfl
    have v5 := T.out.s.f 5
    have u6 := T.out.s.at 6 _ rfl
    have v6 := T.out.s.f 6
    have u7 := T.out.s.at 7 _ rfl
    have v7 := T.out.s.f 7
    replace T := Lib.hid (T.out.sd n2)
    go_upto_region 15 with fail
    generalize w5.setCell ⟨b, 6, none⟩ (.int .i64 n2) = W5 at *
    clear u0 v0 u1 v1 u2 v2 u3 v3 u4 v4 u5 v5 u6 v6 u7 v7
    go_wp2_with fail
    refine (number_any g _ _ _ H.out).mono ?_
    rintro e w5 ⟨n3, E_n3, o_n3, rfl, hn, S5, K5⟩
    replace Q := Lib.hid (SeqP.snoc Q.out hn)
    replace T := Lib.hid (T.out.kept K5)
    replace H := Lib.hid (S5.put (b := b) (j := 7) (by have := T.out.hb; have := T.out.hg; omega) (.int .i64 n3))
    clear hn S5 K5
    have u0 := T.out.s.at 0 _ rfl
    have v0 := T.out.s.f 0
    have u1 := T.out.s.at 1 _ rfl
    have v1 := T.out.s.f 1
    have u2 := T.out.s.at 2 _ rfl
    have v2 := T.out.s.f 2
    have u3 := T.out.s.at 3 _ rfl
    have v3 := T.out.s.f 3
    have u4 := T.out.s.at 4 _ rfl
    have v4 := T.out.s.f 4
    have u5 := T.out.s.at 5 _ rfl
    have v5 := T.out.s.f 5
    have u6 := T.out.s.at 6 _ rfl
    have v6 := T.out.s.f 6
    have u7 := T.out.s.at 7 _ rfl
    have v7 := T.out.s.f 7
    replace T := Lib.hid (T.out.sq n3)
    go_upto_region 16 with fail
    generalize w5.setCell ⟨b, 7, none⟩ (.int .i64 n3) = W5 at *
    clear u0 v0 u1 v1 u2 v2 u3 v3 u4 v4 u5 v5 u6 v6 u7 v7
    have u0 := T.out.s.at 0 _ rfl
    have v0 := T.out.s.f 0
    have u1 := T.out.s.at 1 _ rfl
    have v1 := T.out.s.f 1
    have u2 := T.out.s.at 2 _ rfl
    have v2 := T.out.s.f 2
    have u3 := T.out.s.at 3 _ rfl
    have v3 := T.out.s.f 3
    have u4 := T.out.s.at 4 _ rfl
    have v4 := T.out.s.f 4
    have u5 := T.out.s.at 5 _ rfl
    have v5 := T.out.s.f 5
    have u6 := T.out.s.at 6 _ rfl
    have v6 := T.out.s.f 6
    have u7 := T.out.s.at 7 _ rfl
    have v7 := T.out.s.f 7
    have r0 := T.out.r.at 0 _ rfl
    have f0 := T.out.r.f 0
    have r1 := T.out.r.at 1 _ rfl
    have f1 := T.out.r.f 1
    have r2 := T.out.r.at 2 _ rfl
    have f2 := T.out.r.f 2
    have r3 := T.out.r.at 3 _ rfl
    have f3 := T.out.r.f 3
    have r4 := T.out.r.at 4 _ rfl
    have f4 := T.out.r.f 4
    have r5 := T.out.r.at 5 _ rfl
    have f5 := T.out.r.f 5
    have r6 := T.out.r.at 6 _ rfl
    have f6 := T.out.r.f 6
    have r7 := T.out.r.at 7 _ rfl
    have f7 := T.out.r.f 7
    have HE := Lib.hid (UI.fin T.out)
    have HH : Hid (∀ a0 a1 a2 a3 a4 a5 a6 a7, StI g _ _ ((((((((W5.setCell ⟨w.heap.size, 0, none⟩ a0).setCell ⟨w.heap.size, 1, none⟩ a1).setCell ⟨w.heap.size, 2, none⟩ a2).setCell ⟨w.heap.size, 3, none⟩ a3).setCell ⟨w.heap.size, 4, none⟩ a4).setCell ⟨w.heap.size, 5, none⟩ a5).setCell ⟨w.heap.size, 6, none⟩ a6).setCell ⟨w.heap.size, 7, none⟩ a7)) := fun a0 a1 a2 a3 a4 a5 a6 a7 => by
      have hne : w.heap.size ≠ g := by have := HG.out; omega
      iterate 8 (refine StI.put ?_ hne _)
      exact H.out
    have HP := Lib.hid (NotP.three HED.out Q.out)
    clear T H
    go_wp2
    refine bodyPost_ret ?_ rfl ⟨⟨nm, 3, 0, 0, [], n1, n2, n3⟩, _, _, _, rfl, HP.out, HH.out _ _ _ _ _ _ _ _, (HE.out _ _ _ _ _ _ _ _).2, (HE.out _ _ _ _ _ _ _ _).1⟩
    simp [results, Try.results25, go_sem, r0, r1, r2, r3, r4, r5, r6, r7]
  by_cases hkb : kd = 2
  · skip
    subst hkb
    have hcc : ((out2[0]).toNat : Int) = 2 := by rw [hkd]; rfl
    have hcw : IntKind.i64.wrap 2 = 2 := by decide
    have u0 := T.out.s.at 0 _ rfl
    have v0 := T.out.s.f 0
    have u1 := T.out.s.at 1 _ rfl
    have v1 := T.out.s.f 1
    have u2 := T.out.s.at 2 _ rfl
    have v2 := T.out.s.f 2
    have u3 := T.out.s.at 3 _ rfl
    have v3 := T.out.s.f 3
    have u4 := T.out.s.at 4 _ rfl
    have v4 := T.out.s.f 4
    have u5 := T.out.s.at 5 _ rfl
    have v5 := T.out.s.f 5
    have u6 := T.out.s.at 6 _ rfl
    have v6 := T.out.s.f 6
    have u7 := T.out.s.at 7 _ rfl
    have v7 := T.out.s.f 7
    have H := Lib.hid (HH3.out 2)
    replace T := Lib.hid (HT3.out 2)
    clear HH3 HT3 hk5
    go_upto_region 3 with fail
    generalize w3.setCell ⟨b, 1, none⟩ (.int .i64 2) = W3 at *
    clear u0 v0 u1 v1 u2 v2 u3 v3 u4 v4 u5 v5 u6 v6 u7 v7
    have u0 := T.out.s.at 0 _ rfl
    have v0 := T.out.s.f 0
    have u1 := T.out.s.at 1 _ rfl
    have v1 := T.out.s.f 1
    have u2 := T.out.s.at 2 _ rfl
    have v2 := T.out.s.f 2
    have u3 := T.out.s.at 3 _ rfl
    have v3 := T.out.s.f 3
    have u4 := T.out.s.at 4 _ rfl
    have v4 := T.out.s.f 4
    have u5 := T.out.s.at 5 _ rfl
    have v5 := T.out.s.f 5
    have u6 := T.out.s.at 6 _ rfl
    have v6 := T.out.s.f 6
    have u7 := T.out.s.at 7 _ rfl
    have v7 := T.out.s.f 7
    clear Q
    go_wp2_with fail
    refine (number_any g _ _ _ H.out).mono ?_
    rintro e w5 ⟨n, E1, q1, rfl, hn, S5, K5⟩
    replace T := Lib.hid (T.out.kept K5)
    have HNU := Lib.hid hn
    have n1 := hn.1
    have n2 := hn.2.1
    have HE1 : E1.length ≤ 1048576 := by
      have h1 := HED.out.2.2.2.1
      have h2 := hn.2.2.2.2.1
      omega
    have H5 := Lib.hid S5
    have T5 := T
    clear hn S5 K5 u0 v0 u1 v1 u2 v2 u3 v3 u4 v4 u5 v5 u6 v6 u7 v7 H T
    go_wp2_with fail
    go_loopw [4] (fun t wr => ∃ (ts : List Int) (v : Value) (E : List Int) (o : Bool), t = .int .i64 (n - (ts.length : Int)) ∧ ts.length + E.length ≤ E1.length + 1 ∧ (o = true → ts.length + E.length ≤ E1.length) ∧ Hid ((ts.length : Int) ≤ n ∨ ts.length = 0) ∧ Hid (SeqP E1 q1 ts E o) ∧ Hid (StI g E o wr) ∧ Hid (UI g b ⟨nm, 2, 0, 0, ts, 0, 0, 0⟩ v w wr)) (fun t _ => (intOf t).toNat)
    case atStart => exact ⟨[], _, E1, q1, by simp, by simp, by simp, .inr rfl, SeqP.nil _ _, H5.out, T5.out⟩
    case round =>
      obtain ⟨ts, v, E, o, rfl, hl1, hl2, HCN, Q, H, T⟩ := hrel
      clear H5 T5
      obtain ⟨A, cp, rfl⟩ := own_slice T.out.row
      have HL : Hid (ts.length + E.length ≤ E1.length + 1) := hl1
      have HB := Lib.hid H.out
      obtain ⟨R, hR, hB⟩ := HB.out
      have x1 := hB.at 1 _ rfl
      clear hR
      by_cases hn0 : 0 < n - (ts.length : Int)
      · cases o
        · have HX : Hid (n ≤ (ts.length : Int) ∨ false = false) := .inr rfl
          simp only [Bool.not_false] at x1
          clear hB hl1 hl2
          have u0 := T.out.s.at 0 _ rfl
          have v0 := T.out.s.f 0
          have u1 := T.out.s.at 1 _ rfl
          have v1 := T.out.s.f 1
          have u2 := T.out.s.at 2 _ rfl
          have v2 := T.out.s.f 2
          have u3 := T.out.s.at 3 _ rfl
          have v3 := T.out.s.f 3
          have u4 := T.out.s.at 4 _ rfl
          have v4 := T.out.s.f 4
          have u5 := T.out.s.at 5 _ rfl
          have v5 := T.out.s.f 5
          have u6 := T.out.s.at 6 _ rfl
          have v6 := T.out.s.f 6
          have u7 := T.out.s.at 7 _ rfl
          have v7 := T.out.s.f 7
          have r0 := T.out.r.at 0 _ rfl
          have f0 := T.out.r.f 0
          have r1 := T.out.r.at 1 _ rfl
          have f1 := T.out.r.f 1
          have r2 := T.out.r.at 2 _ rfl
          have f2 := T.out.r.f 2
          have r3 := T.out.r.at 3 _ rfl
          have f3 := T.out.r.f 3
          have r4 := T.out.r.at 4 _ rfl
          have f4 := T.out.r.f 4
          have r5 := T.out.r.at 5 _ rfl
          have f5 := T.out.r.f 5
          have r6 := T.out.r.at 6 _ rfl
          have f6 := T.out.r.f 6
          have r7 := T.out.r.at 7 _ rfl
          have f7 := T.out.r.f 7
          have HE := Lib.hid (UI.fin T.out)
          have HH : Hid (∀ a0 a1 a2 a3 a4 a5 a6 a7, StI g _ _ ((((((((wr.setCell ⟨w.heap.size, 0, none⟩ a0).setCell ⟨w.heap.size, 1, none⟩ a1).setCell ⟨w.heap.size, 2, none⟩ a2).setCell ⟨w.heap.size, 3, none⟩ a3).setCell ⟨w.heap.size, 4, none⟩ a4).setCell ⟨w.heap.size, 5, none⟩ a5).setCell ⟨w.heap.size, 6, none⟩ a6).setCell ⟨w.heap.size, 7, none⟩ a7)) := fun a0 a1 a2 a3 a4 a5 a6 a7 => by
            have hne : w.heap.size ≠ g := by have := HG.out; omega
            iterate 8 (refine StI.put ?_ hne _)
            exact H.out
          have HP := Lib.hid (NotP.two HED.out HNU.out Q.out HL.out HCN.out HX.out)
          clear T H
          go_wp2
          refine bodyPost_ret ?_ rfl ⟨⟨nm, 2, 0, 0, ts, 0, 0, 0⟩, _, _, _, rfl, HP.out, HH.out _ _ _ _ _ _ _ _, (HE.out _ _ _ _ _ _ _ _).2, (HE.out _ _ _ _ _ _ _ _).1⟩
          simp [results, Try.results25, go_sem, r0, r1, r2, r3, r4, r5, r6, r7]
        · have hB1 := hl2 rfl
          simp only [Bool.not_true] at x1
          clear hB hl1 hl2 HB
          have hbl := T.out.s.lt
          have hgl := H.out.lt
          have hbg : b ≠ g := by have := T.out.hb; have := T.out.hg; omega
          have hrg : (Value.slice A ts.length cp).ownBlock ≠ some g := fun e => by have := (T.out.row.lt _ e).1; have := T.out.hg; omega
          have T0 := T
          have H0 := H
          have u4 := T.out.s.at 4 _ rfl
          have v4 := T.out.s.f 4
          have hw1 : IntKind.i64.wrap (n - (ts.length : Int) - 1) = n - (ts.length : Int) - 1 := IntWalk.i64_in _ (by omega)
          go_wp2_with fail
          first | go_region_law (first
            | (go_simp; go_at_call 53; ((with_reducible refine (number_any g E true _ (H0.out.next (ext_drew (Below.refl _ _)))).mono ?_); rintro e w3 ⟨y, E2, o2, rfl, hy, S3, K3'⟩; have K3 : Keep g wr w3 := (Keep.refl g wr).drew.trans K3'; have T3 := Lib.hid (T0.out.kept K3); have HY := Lib.hid hy; have H3 := Lib.hid S3; have hb3 : w.heap.size + 1 ≤ w3.heap.size + 1 := Nat.succ_le_succ T3.out.keep.2.1; have hb4 : b < w3.heap.size := T3.out.s.lt; have m4 := T3.out.s.at 4 _ rfl; have n4 := T3.out.s.f 4; have hrow3 : World.ownsRow (w3.alloc (.cells #[.int .i64 y] 2)) (w.heap.size + 1) 2 1 (.slice A ts.length cp) ts.length (ts.map (Value.int .i64)) := (T3.out.next (ext1 w3 (.cells #[.int .i64 y] 2))).row))
            | (refine step_append_lies _ (by rfl) _ _ _ (by rfl) (w.heap.size + 1) 2 ti (.int .i64 0) 1 8 Try.underlying32 HI.out hz0 hz1 hz2 rfl (by decide) _ _ _ (by rfl) hrow3 ⟨w3.heap.size, 0, none⟩ 1 1 [.int .i64 y] (by rfl) (by rfl) (news_rowN _ _ _ rfl) (by simp [Value.oneCell']) (by omega) (by unfold maxLen; omega) (by omega) (by simp only [World.size_alloc]; exact hb3) _ rfl ?_; intro g6 cap6 w6 hown6 hgrow hat hlt; have B6 := (T3.out.next (ext1 w3 (.cells #[.int .i64 y] 2))).s.grown hgrow T3.out.far; have z4 := B6.at 4 _ rfl; have G4 := B6.f 4)
            | fail) | fail
          all_goals
            have hf6 : (Value.slice (some ⟨g6, 0, none⟩) (ts.length + 1) cap6).ownBlock ≠ some b := by
              intro e
              have e2 : g6 = b := by injection e
              rcases hat with h | h
              · exact T3.out.far (by rw [h, e2])
              · (try simp at h); omega
            have T := Lib.hid (UI.push (y := y) (T3.out.next (ext1 w3 (.cells #[.int .i64 y] 2))) hown6 hgrow hf6)
            have H : Hid (StI g E2 o2 (w6.setCell ⟨b, 4, none⟩ (.slice (some ⟨g6, 0, none⟩) (ts.length + 1) cap6))) := ((H3.out.next (ext1 w3 (.cells #[.int .i64 y] 2))).grown hgrow hrg).put hbg _
            have HTL : Hid ((ts ++ [y]).length = ts.length + 1) := by unfold Hid; rw [List.length_append]; rfl
            have hE2 : E2.length ≤ E.length := HY.out.2.2.2.2.1
            have hE3 : o2 = true → E2.length < E.length := fun h => by
              rcases HY.out.2.2.2.1 with h2 | h2
              · rw [h] at h2; cases h2
              · exact h2
            have Q2 := Lib.hid (SeqP.snoc Q.out HY.out)
            clear hf6 hown6 hgrow hat hlt B6 z4 G4 m4 n4 T3 K3 H3 T0 H0 hb3 hrg hrow3
            generalize w6.setCell ⟨b, 4, none⟩ (.slice (some ⟨g6, 0, none⟩) (ts.length + 1) cap6) = W5 at *
            go_wp2
            go_roundw
            case rel => exact ⟨ts ++ [y], _, E2, o2, by rw [HTL.out]; congr 1; omega, by rw [HTL.out]; omega, fun h => by rw [HTL.out]; have := hE3 h; omega, .inl (by rw [HTL.out]; omega), Q2.out, H.out, T.out⟩
            case measure => simp [intOf]; omega
      · have HX : Hid (n ≤ (ts.length : Int) ∨ o = false) := .inl (by omega)
        clear hB hl1 hl2
        have u0 := T.out.s.at 0 _ rfl
        have v0 := T.out.s.f 0
        have u1 := T.out.s.at 1 _ rfl
        have v1 := T.out.s.f 1
        have u2 := T.out.s.at 2 _ rfl
        have v2 := T.out.s.f 2
        have u3 := T.out.s.at 3 _ rfl
        have v3 := T.out.s.f 3
        have u4 := T.out.s.at 4 _ rfl
        have v4 := T.out.s.f 4
        have u5 := T.out.s.at 5 _ rfl
        have v5 := T.out.s.f 5
        have u6 := T.out.s.at 6 _ rfl
        have v6 := T.out.s.f 6
        have u7 := T.out.s.at 7 _ rfl
        have v7 := T.out.s.f 7
        have r0 := T.out.r.at 0 _ rfl
        have f0 := T.out.r.f 0
        have r1 := T.out.r.at 1 _ rfl
        have f1 := T.out.r.f 1
        have r2 := T.out.r.at 2 _ rfl
        have f2 := T.out.r.f 2
        have r3 := T.out.r.at 3 _ rfl
        have f3 := T.out.r.f 3
        have r4 := T.out.r.at 4 _ rfl
        have f4 := T.out.r.f 4
        have r5 := T.out.r.at 5 _ rfl
        have f5 := T.out.r.f 5
        have r6 := T.out.r.at 6 _ rfl
        have f6 := T.out.r.f 6
        have r7 := T.out.r.at 7 _ rfl
        have f7 := T.out.r.f 7
        have HE := Lib.hid (UI.fin T.out)
        have HH : Hid (∀ a0 a1 a2 a3 a4 a5 a6 a7, StI g _ _ ((((((((wr.setCell ⟨w.heap.size, 0, none⟩ a0).setCell ⟨w.heap.size, 1, none⟩ a1).setCell ⟨w.heap.size, 2, none⟩ a2).setCell ⟨w.heap.size, 3, none⟩ a3).setCell ⟨w.heap.size, 4, none⟩ a4).setCell ⟨w.heap.size, 5, none⟩ a5).setCell ⟨w.heap.size, 6, none⟩ a6).setCell ⟨w.heap.size, 7, none⟩ a7)) := fun a0 a1 a2 a3 a4 a5 a6 a7 => by
          have hne : w.heap.size ≠ g := by have := HG.out; omega
          iterate 8 (refine StI.put ?_ hne _)
          exact H.out
        have HP := Lib.hid (NotP.two HED.out HNU.out Q.out HL.out HCN.out HX.out)
        clear T H
        go_wp2
        refine bodyPost_ret ?_ rfl ⟨⟨nm, 2, 0, 0, ts, 0, 0, 0⟩, _, _, _, rfl, HP.out, HH.out _ _ _ _ _ _ _ _, (HE.out _ _ _ _ _ _ _ _).2, (HE.out _ _ _ _ _ _ _ _).1⟩
        simp [results, Try.results25, go_sem, r0, r1, r2, r3, r4, r5, r6, r7]
  have hk1 : ((kd : Int) == 1) = false := by simp; omega
  have hk2 : ((kd : Int) == 2) = false := by simp; omega
  have hk3 : ((kd : Int) == 3) = false := by simp; omega
  have hcc : ((out2[0]).toNat : Int) = (kd : Int) := by rw [hkd]
  have hcw : IntKind.i64.wrap (kd : Int) = (kd : Int) := IntWalk.i64_in _ (by omega)
  have u0 := T.out.s.at 0 _ rfl
  have v0 := T.out.s.f 0
  have u1 := T.out.s.at 1 _ rfl
  have v1 := T.out.s.f 1
  have u2 := T.out.s.at 2 _ rfl
  have v2 := T.out.s.f 2
  have u3 := T.out.s.at 3 _ rfl
  have v3 := T.out.s.f 3
  have u4 := T.out.s.at 4 _ rfl
  have v4 := T.out.s.f 4
  have u5 := T.out.s.at 5 _ rfl
  have v5 := T.out.s.f 5
  have u6 := T.out.s.at 6 _ rfl
  have v6 := T.out.s.f 6
  have u7 := T.out.s.at 7 _ rfl
  have v7 := T.out.s.f 7
  have H := Lib.hid (HH3.out (kd : Int))
  replace T := Lib.hid (HT3.out (kd : Int))
  clear HH3 HT3 hk5
  go_upto_region 3 with fail
  generalize w3.setCell ⟨b, 1, none⟩ (.int .i64 (kd : Int)) = W5 at *
  clear u0 v0 u1 v1 u2 v2 u3 v3 u4 v4 u5 v5 u6 v6 u7 v7
  have u0 := T.out.s.at 0 _ rfl
  have v0 := T.out.s.f 0
  have u1 := T.out.s.at 1 _ rfl
  have v1 := T.out.s.f 1
  have u2 := T.out.s.at 2 _ rfl
  have v2 := T.out.s.f 2
  have u3 := T.out.s.at 3 _ rfl
  have v3 := T.out.s.f 3
  have u4 := T.out.s.at 4 _ rfl
  have v4 := T.out.s.f 4
  have u5 := T.out.s.at 5 _ rfl
  have v5 := T.out.s.f 5
  have u6 := T.out.s.at 6 _ rfl
  have v6 := T.out.s.f 6
  have u7 := T.out.s.at 7 _ rfl
  have v7 := T.out.s.f 7
  have r0 := T.out.r.at 0 _ rfl
  have f0 := T.out.r.f 0
  have r1 := T.out.r.at 1 _ rfl
  have f1 := T.out.r.f 1
  have r2 := T.out.r.at 2 _ rfl
  have f2 := T.out.r.f 2
  have r3 := T.out.r.at 3 _ rfl
  have f3 := T.out.r.f 3
  have r4 := T.out.r.at 4 _ rfl
  have f4 := T.out.r.f 4
  have r5 := T.out.r.at 5 _ rfl
  have f5 := T.out.r.f 5
  have r6 := T.out.r.at 6 _ rfl
  have f6 := T.out.r.f 6
  have r7 := T.out.r.at 7 _ rfl
  have f7 := T.out.r.f 7
  have HE := Lib.hid (UI.fin T.out)
  have HH : Hid (∀ a0 a1 a2 a3 a4 a5 a6 a7, StI g _ _ ((((((((W5.setCell ⟨w.heap.size, 0, none⟩ a0).setCell ⟨w.heap.size, 1, none⟩ a1).setCell ⟨w.heap.size, 2, none⟩ a2).setCell ⟨w.heap.size, 3, none⟩ a3).setCell ⟨w.heap.size, 4, none⟩ a4).setCell ⟨w.heap.size, 5, none⟩ a5).setCell ⟨w.heap.size, 6, none⟩ a6).setCell ⟨w.heap.size, 7, none⟩ a7)) := fun a0 a1 a2 a3 a4 a5 a6 a7 => by
    have hne : w.heap.size ≠ g := by have := HG.out; omega
    iterate 8 (refine StI.put ?_ hne _)
    exact H.out
  have HP := Lib.hid (NotP.other (x := ⟨nm, (kd : Int), 0, 0, [], 0, 0, 0⟩) (D' := D3) HED.out ⟨hka, hkb, hkc⟩ HED.out.1 rfl id (Nat.le_refl _))
  clear T H
  go_wp2
  refine bodyPost_ret ?_ rfl ⟨⟨nm, (kd : Int), 0, 0, [], 0, 0, 0⟩, _, _, _, rfl, HP.out, HH.out _ _ _ _ _ _ _ _, (HE.out _ _ _ _ _ _ _ _).2, (HE.out _ _ _ _ _ _ _ _).1⟩
  simp [results, Try.results25, go_sem, r0, r1, r2, r3, r4, r5, r6, r7]
end Go.Proofs.Ytkimmahmbacjpaa
