/- Parts of the proof, merged: DrawOkW ValidDeskW SameDeskW SameNotesW NoteOkW. No condition but those that each theorem names. -/
import Derived.Test.YtpnabggpdgjbmaaGreatDoorMgAE
import Derived.Test.YtpnabggpdgjbmaaGreatDoorMgAC
import Derived.Test.YtpnabggpdgjbmaaGreatDoorMgAG
namespace Go.Proofs.YtpnabggpdgjbmaaGreatDoor
open Go.RowKit Go.Sort
/-- A quotient in lowest terms is a fraction. -/
theorem fracOk_lo {n d : Int} (d1 : 1 ≤ d) (d2 : d ≤ 1000000000) (n1 : -1000000000 ≤ n) (n2 : n ≤ 1000000000) : fracOk (qN n d) (qD n d) = true := by
  have hg := gcd_pos' (n := n) (d := d) (by omega)
  have e1 : qN n d = n / (Int.gcd n d : Int) := by rw [qN, if_neg (by omega)]
  have e2 : qD n d = d / (Int.gcd n d : Int) := by rw [qD]; congr 1; omega
  rw [fracOk_true, e1, e2]
  obtain ⟨q1, q2⟩ := ediv_bd (M := 1000000000) hg n1 n2
  obtain ⟨q3, q4⟩ := ediv_bd (M := 1000000000) hg (show -1000000000 ≤ d by omega) d2
  refine ⟨?_, q4, q1, q2, ?_⟩
  · rw [Int.le_ediv_iff_mul_le hg]
    have : Int.gcd n d ≤ d.natAbs := Nat.le_of_dvd (by omega) (by exact Nat.gcd_dvd_right _ _)
    omega
  · exact Int.gcd_ediv_gcd_ediv_gcd_of_ne_zero_right (by omega)
theorem tmAll_one {x : Int} (h1 : -1000000000 ≤ x) (h2 : x ≤ 1000000000) : Hid (termsAll 0 [x] = true) := by
  unfold Hid
  simp [termsAll, tmB, inR]
  omega
theorem tmAll_snoc : ∀ (xs : List Int) (k : Nat) (x : Int), termsAll k xs = true → 0 < k + xs.length → 1 ≤ x → x ≤ 1000000000 → termsAll k (xs ++ [x]) = true
  | [], k, x, _, h0, h1, h2 => by
    have hk : ¬ k = 0 := by simp only [List.length_nil] at h0; omega
    simp [termsAll, tmB, inR, hk]
    omega
  | y :: ys, k, x, h, h0, h1, h2 => by
    have h' : (tmB k y && termsAll (k + 1) ys) = true := h
    rw [Bool.and_eq_true] at h'
    show (tmB k y && termsAll (k + 1) (ys ++ [x])) = true
    rw [h'.1, tmAll_snoc ys (k + 1) x h'.2 (by omega) h1 h2]
    rfl
theorem tmAll_push {xs : List Int} {x : Int} (h : termsAll 0 xs = true) (hl : 1 ≤ xs.length) (h1 : 1 ≤ x) (h2 : x ≤ 1000000000) : Hid (termsAll 0 (xs ++ [x]) = true) := tmAll_snoc xs 0 x h (by omega) h1 h2
theorem tmB_of {xs : List Int} (h : termsAll 0 xs = true) (h1 : 1 ≤ xs.length) (h2 : xs.length ≤ 60) : termsB xs = true := by
  unfold termsB
  rw [h]
  simp [inR]
  omega
/-- A draw of a valid fraction. -/
def RetFo (g B N : Nat) (w : World) (e : Ending) (w' : World) : Prop := ∃ a b : Int, e = .returned (fracV a b) ∧ fracOk a b = true ∧ Src g B N w' ∧ Keep g w w'
theorem S0.retO {g B N M : Nat} {w W : World} (t : S0 g B N w W) {a b : Int} (h : fracOk a b = true) (hM : N ≤ M) (x y : Value) (a' b' : Int) (ha : a' = a) (hb : b' = b) : RetFo g B M w (.returned (fracV a' b')) ((W.setCell ⟨w.heap.size, 0, none⟩ x).setCell ⟨w.heap.size, 1, none⟩ y) := by
  subst ha hb
  obtain ⟨t1, t2, t3, t4⟩ := t
  exact ⟨_, _, rfl, h, ((t1.setOther t4 _ _).setOther t4 _ _).more hM, (t2.setOther t4 (Nat.le_refl _) _ _).setOther t4 (Nat.le_refl _) _ _⟩
/-- A draw of a list of valid terms: a row of the call's own. -/
def RetLok (g B N : Nat) (w : World) (e : Ending) (w' : World) : Prop := ∃ (xs : List Int) (v : Value), e = .returned v ∧ termsB xs = true ∧ xs.length ≤ 9 ∧ SL g B N w xs v w'
theorem l02Make_ok (n d : Int) (w : World) (n1 : -1000000000 ≤ n) (n2 : n ≤ 1000000000) (d1 : 1 ≤ d) (d2 : d ≤ 1000000000) :
    Calls Tryz.prog 114 #[.int .i64 n, .int .i64 d] w fun e w' => ∃ u v, e = .returned (fracV u v) ∧ fracOk u v = true ∧ Below w.heap.size w w' :=
  (l02Make_any n d w (by omega) (by omega) d1 (by omega)).mono fun _ _ h => ⟨_, _, h.1, fracOk_lo d1 d2 n1 n2, h.2⟩
set_option maxHeartbeats 1000000 in
theorem l02Draw_ok (g B N : Nat) (w : World) (h : Src g B N w) (hN : N ≤ 900000) :
    Calls Tryz.prog 111 #[.pointer (some ⟨g, 0, none⟩), .int .i64 300] w (RetFo g B (N + 8) w) := by
  have T := Lib.hid (S0.start h 26)
  clear h
  go_enter Tryz.func111, Tryz.ntmps111
  go_wp2_with fail
  refine (srcPick_any g B N 601 _ T.out.1 (by omega) (by omega)).mono ?_
  rintro e w1 ⟨x, x1, x2, rfl, S1, K1⟩
  have T := Lib.hid (T.out.keep S1 K1)
  go_wp2_with fail
  refine (srcOne_any g B _ 2 _ T.out.1 (by omega) (by omega)).mono ?_
  rintro e w2 ⟨b, rfl, S2, K2⟩
  have T := Lib.hid (T.out.keep S2 K2)
  clear S1 K1 S2 K2
  cases b
  · go_wp2_with fail
    refine (srcPick_any g B _ 300 _ T.out.1 (by omega) (by omega)).mono ?_
    rintro e w4 ⟨y, y1, y2, rfl, S4, K4⟩
    have T := Lib.hid (T.out.keep S4 K4)
    go_wp2_with fail
    refine (l02Make_ok _ _ _ (by omega) (by omega) (by omega) (by omega)).mono ?_
    rintro e w5 ⟨u, v, rfl, hok, hb5⟩
    have T := Lib.hid (T.out.next hb5)
    clear hb5 S4 K4
    obtain ⟨r0, r1, rf, rl⟩ := T.out.2.2.1
    have rf0 := rf 0
    have rf1 := rf 1
    clear rf
    obtain ⟨s0, s1⟩ := set_two r0 r1
    go_wp2
    refine bodyPost_ret ?_ rfl (S0.retO T.out hok (by omega) _ _ u v rfl rfl)
    simp [results, Tryz.results111, go_sem, s0, s1]
  · go_wp2_with fail
    refine (srcPick_any g B _ 301 _ T.out.1 (by omega) (by omega)).mono ?_
    rintro e w3 ⟨z, z1, z2, rfl, S3, K3⟩
    have T := Lib.hid ((T.out.keep S3 K3))
    clear S3 K3
    go_wp2_with fail
    refine (srcPick_any g B _ 300 _ T.out.1 (by omega) (by omega)).mono ?_
    rintro e w4 ⟨y, y1, y2, rfl, S4, K4⟩
    have T := Lib.hid (T.out.keep S4 K4)
    go_wp2_with fail
    refine (l02Make_ok _ _ _ (by omega) (by omega) (by omega) (by omega)).mono ?_
    rintro e w5 ⟨u, v, rfl, hok, hb5⟩
    have T := Lib.hid (T.out.next hb5)
    clear hb5 S4 K4
    obtain ⟨r0, r1, rf, rl⟩ := T.out.2.2.1
    have rf0 := rf 0
    have rf1 := rf 1
    clear rf
    obtain ⟨s0, s1⟩ := set_two r0 r1
    go_wp2
    refine bodyPost_ret ?_ rfl (S0.retO T.out hok (by omega) _ _ u v rfl rfl)
    simp [results, Tryz.results111, go_sem, s0, s1]
set_option maxRecDepth 100000 in
set_option maxHeartbeats 2000000 in
theorem l03Draw_ok (g B N : Nat) (w : World) (h : Src g B N w) (hN : N ≤ 800000) :
    Calls Tryz.prog 112 #[.pointer (some ⟨g, 0, none⟩), .int .i64 6] w (RetLok g B (N + 44) w) := by
  obtain ⟨ti, hi, hz0, hz1, hz2⟩ := info_parts info64
  have HI := Lib.hid hi
  have HG := Lib.hid h.lt
  have HS := Lib.hid h
  clear h hi
  go_enter Tryz.func112, Tryz.ntmps112
  go_wp2_with fail
  refine (srcPick_any g B N 21 _ HS.out (by omega) (by omega)).mono ?_
  rintro e w1 ⟨x, x1, x2, rfl, S1, K1⟩
  have HA0 : Hid (termsAll 0 [x - 10] = true) := tmAll_one (by omega) (by omega)
  have T : Hid (SL g B (N + 2) w [x - 10] (.slice (some ⟨w1.heap.size, 0, none⟩) 1 1) (w1.alloc (.cells #[.int .i64 (x - 10)] 2))) :=
    ⟨S1.next (ext1 _ _), K1.trans (Keep.of (ext1 _ _) S1.lt), by
      have h := World.ownsRow_lit (base := w.heap.size) (e := 2) (size := 1) w1 #[.int .i64 (x - 10)] 1 K1.2.1 (by unfold maxLen; omega) rfl
      simpa using h, HG.out⟩
  clear S1 K1 HS
  go_wp2_with fail
  generalize w1.alloc (.cells #[.int .i64 (x - 10)] 2) = W1 at *
  refine (srcPick_any g B _ 6 _ T.out.src (by omega) (by omega)).mono ?_
  rintro e w2 ⟨k, k1, k2, rfl, S2, K2⟩
  have T := Lib.hid (T.out.kept S2 K2)
  generalize w1.heap.size = h1 at *
  clear S2 K2
  obtain ⟨m, rfl⟩ : ∃ m : Nat, k = (m : Int) := ⟨k.toNat, by omega⟩
  have hm3 : m ≤ 5 := by omega
  clear k1 k2
  go_wp2_with fail
  go_loopw [6, 5] (fun t v wr => ∃ (k : Nat) (out : List Int) (h c : Nat), t = .int .i64 k ∧ k ≤ 5 ∧ v = .slice (some ⟨h, 0, none⟩) out.length c ∧ 1 ≤ out.length ∧ out.length + k ≤ 6 ∧ Hid (SL g B (N + 4 + 8 * (5 - k)) w out v wr) ∧ Hid (termsAll 0 out = true)) (fun t _ _ => (intOf t).toNat)
  case atStart => exact ⟨m, [x - 10], h1, 1, rfl, hm3, rfl, by simp, by simp; omega, T.out.more (by omega), HA0⟩
  case round =>
    obtain ⟨k, out, h, c, rfl, hk, rfl, ho1, ho2, HT, HA⟩ := hrel
    clear T
    have T := HT
    clear HT
    by_cases h0 : 0 < k
    · skip
      go_wp2_with fail
      refine (srcPick_any g B _ 6 _ T.out.src (by omega) (by omega)).mono ?_
      rintro e w3 ⟨y, y1, y2, rfl, S3, K3⟩
      have T := Lib.hid (T.out.kept S3 K3)
      clear S3 K3
      go_wp2_with fail
      refine (srcOne_any g B _ 8 _ T.out.src (by omega) (by omega)).mono ?_
      rintro e w4 ⟨b, rfl, S3, K3⟩
      have T := Lib.hid (T.out.kept S3 K3)
      clear S3 K3
      cases b
      · skip
        go_wp2_with fail
        refine (srcOne_any g B _ 3 _ T.out.src (by omega) (by omega)).mono ?_
        rintro e w5 ⟨d, rfl, S3, K3⟩
        have T := Lib.hid (T.out.kept S3 K3)
        clear S3 K3
        cases d
        · skip
          have hown := (T.out.next (ext1 w5 (.cells #[.int .i64 (1 + y)] 2))).row
          have hb4 : w.heap.size ≤ w5.heap.size + 1 := Nat.le_succ_of_le T.out.keep.2.1
          go_wp2_with (at_builtin; go_must (refine wpList_append_lies _ rfl _ _ 27 rfl w.heap.size 2 ti (.int .i64 0) 1 8 Tryz.underlying27 HI.out hz0 hz1 hz2 rfl (by decide) _ _ _ rfl hown ⟨w5.heap.size, 0, none⟩ 1 1 [.int .i64 (1 + y)] rfl rfl (news_row1 _ _ _ rfl) ?c2 (by omega) ?c3 ?c4 ?c5 _ rfl ?_))
          case c2 => simp [Value.oneCell']
          case c3 => unfold maxLen; omega
          case c4 => omega
          case c5 => simp; exact hb4
          intro g6 cap6 w6 hown6 hgrow _ _
          have T6 := Lib.hid (SL.push (x := 1 + y) (T.out.next (ext1 w5 (.cells #[.int .i64 (1 + y)] 2))) hown6 hgrow)
          have HLQ : Hid ((out ++ [1 + y]).length = out.length + 1) := by unfold Hid; rw [List.length_append]; rfl
          clear hown6 hgrow hown
          go_wp2
          go_roundw
          case rel => exact ⟨k - 1, out ++ [1 + y], g6, cap6, val_int (by omega), by omega, by rw [HLQ.out], by rw [HLQ.out]; omega, by rw [HLQ.out]; omega, T6.out.more (by omega), tmAll_push HA.out ho1 (by omega) (by omega)⟩
          case measure => simp [intOf]; omega
        · skip
          have hown := (T.out.next (ext1 w5 (.cells #[.int .i64 (1)] 2))).row
          have hb4 : w.heap.size ≤ w5.heap.size + 1 := Nat.le_succ_of_le T.out.keep.2.1
          go_wp2_with (at_builtin; go_must (refine wpList_append_lies _ rfl _ _ 27 rfl w.heap.size 2 ti (.int .i64 0) 1 8 Tryz.underlying27 HI.out hz0 hz1 hz2 rfl (by decide) _ _ _ rfl hown ⟨w5.heap.size, 0, none⟩ 1 1 [.int .i64 (1)] rfl rfl (news_row1 _ _ _ rfl) ?c2 (by omega) ?c3 ?c4 ?c5 _ rfl ?_))
          case c2 => simp [Value.oneCell']
          case c3 => unfold maxLen; omega
          case c4 => omega
          case c5 => simp; exact hb4
          intro g6 cap6 w6 hown6 hgrow _ _
          have T6 := Lib.hid (SL.push (x := 1) (T.out.next (ext1 w5 (.cells #[.int .i64 (1)] 2))) hown6 hgrow)
          have HLQ : Hid ((out ++ [1]).length = out.length + 1) := by unfold Hid; rw [List.length_append]; rfl
          clear hown6 hgrow hown
          go_wp2
          go_roundw
          case rel => exact ⟨k - 1, out ++ [1], g6, cap6, val_int (by omega), by omega, by rw [HLQ.out], by rw [HLQ.out]; omega, by rw [HLQ.out]; omega, T6.out.more (by omega), tmAll_push HA.out ho1 (by omega) (by omega)⟩
          case measure => simp [intOf]; omega
      · skip
        go_wp2_with fail
        refine (srcPick_any g B _ 60 _ T.out.src (by omega) (by omega)).mono ?_
        rintro e w5 ⟨z, z1, z2, rfl, S3, K3⟩
        have T := Lib.hid (T.out.kept S3 K3)
        clear S3 K3
        go_wp2_with fail
        refine (srcOne_any g B _ 3 _ T.out.src (by omega) (by omega)).mono ?_
        rintro e w6' ⟨d, rfl, S3, K3⟩
        have T := Lib.hid (T.out.kept S3 K3)
        clear S3 K3
        cases d
        · skip
          have hown := (T.out.next (ext1 w6' (.cells #[.int .i64 (1 + z)] 2))).row
          have hb4 : w.heap.size ≤ w6'.heap.size + 1 := Nat.le_succ_of_le T.out.keep.2.1
          go_wp2_with (at_builtin; go_must (refine wpList_append_lies _ rfl _ _ 27 rfl w.heap.size 2 ti (.int .i64 0) 1 8 Tryz.underlying27 HI.out hz0 hz1 hz2 rfl (by decide) _ _ _ rfl hown ⟨w6'.heap.size, 0, none⟩ 1 1 [.int .i64 (1 + z)] rfl rfl (news_row1 _ _ _ rfl) ?c2 (by omega) ?c3 ?c4 ?c5 _ rfl ?_))
          case c2 => simp [Value.oneCell']
          case c3 => unfold maxLen; omega
          case c4 => omega
          case c5 => simp; exact hb4
          intro g6 cap6 w6 hown6 hgrow _ _
          have T6 := Lib.hid (SL.push (x := 1 + z) (T.out.next (ext1 w6' (.cells #[.int .i64 (1 + z)] 2))) hown6 hgrow)
          have HLQ : Hid ((out ++ [1 + z]).length = out.length + 1) := by unfold Hid; rw [List.length_append]; rfl
          clear hown6 hgrow hown
          go_wp2
          go_roundw
          case rel => exact ⟨k - 1, out ++ [1 + z], g6, cap6, val_int (by omega), by omega, by rw [HLQ.out], by rw [HLQ.out]; omega, by rw [HLQ.out]; omega, T6.out.more (by omega), tmAll_push HA.out ho1 (by omega) (by omega)⟩
          case measure => simp [intOf]; omega
        · skip
          have hown := (T.out.next (ext1 w6' (.cells #[.int .i64 (1)] 2))).row
          have hb4 : w.heap.size ≤ w6'.heap.size + 1 := Nat.le_succ_of_le T.out.keep.2.1
          go_wp2_with (at_builtin; go_must (refine wpList_append_lies _ rfl _ _ 27 rfl w.heap.size 2 ti (.int .i64 0) 1 8 Tryz.underlying27 HI.out hz0 hz1 hz2 rfl (by decide) _ _ _ rfl hown ⟨w6'.heap.size, 0, none⟩ 1 1 [.int .i64 (1)] rfl rfl (news_row1 _ _ _ rfl) ?c2 (by omega) ?c3 ?c4 ?c5 _ rfl ?_))
          case c2 => simp [Value.oneCell']
          case c3 => unfold maxLen; omega
          case c4 => omega
          case c5 => simp; exact hb4
          intro g6 cap6 w6 hown6 hgrow _ _
          have T6 := Lib.hid (SL.push (x := 1) (T.out.next (ext1 w6' (.cells #[.int .i64 (1)] 2))) hown6 hgrow)
          have HLQ : Hid ((out ++ [1]).length = out.length + 1) := by unfold Hid; rw [List.length_append]; rfl
          clear hown6 hgrow hown
          go_wp2
          go_roundw
          case rel => exact ⟨k - 1, out ++ [1], g6, cap6, val_int (by omega), by omega, by rw [HLQ.out], by rw [HLQ.out]; omega, by rw [HLQ.out]; omega, T6.out.more (by omega), tmAll_push HA.out ho1 (by omega) (by omega)⟩
          case measure => simp [intOf]; omega
    · have HRT : Hid (RetLok g B (N + 44) w (.returned (.slice (some ⟨h, 0, none⟩) out.length c)) wr) := ⟨out, _, rfl, tmB_of HA.out ho1 (by omega), by omega, T.out.more (by omega)⟩
      clear T
      go_wp2
      go_ret
      exact HRT.out
end Go.Proofs.YtpnabggpdgjbmaaGreatDoor
namespace Go.Proofs.YtpnabggpdgjbmaaGreatDoor
open Go.RowKit Go.Sort
def ltB (a b : ByteArray) : Bool := Op.bytesLess a.toList b.toList
theorem bl_total : ∀ x y : List UInt8, (Op.bytesLess x y || x == y) = !Op.bytesLess y x
  | [], [] => rfl
  | _ :: _, [] => rfl
  | [], _ :: _ => rfl
  | a :: x, b :: y => by
    have ih := bl_total x y
    rw [Op.bytesLess, Op.bytesLess]
    have hc : (a :: x == b :: y) = (a == b && x == y) := rfl
    rw [hc]
    rcases Nat.lt_trichotomy a.toNat b.toNat with h | h | h
    · have h1 : a < b := UInt8.lt_iff_toNat_lt.2 h
      have h2 : ¬ b < a := fun g => by have := UInt8.lt_iff_toNat_lt.1 g; omega
      have h3 : ¬ b = a := fun g => by rw [g] at h; omega
      simp [h1, h2, h3]
    · have e : a = b := UInt8.toNat_inj.1 h
      subst e
      simpa using ih
    · have h1 : b < a := UInt8.lt_iff_toNat_lt.2 h
      have h2 : ¬ a < b := fun g => by have := UInt8.lt_iff_toNat_lt.1 g; omega
      have h3 : ¬ a = b := fun g => by rw [g] at h; omega
      simp [h1, h2, h3]
end Go.Proofs.YtpnabggpdgjbmaaGreatDoor
namespace Go.Proofs.YtpnabggpdgjbmaaGreatDoor
open Go.RowKit Go.Sort
theorem toL_inj {a b : ByteArray} (h : a.toList = b.toList) : a = b := by
  rw [ByteArray.toList_eq, ByteArray.toList_eq] at h
  exact ByteArray.ext (Array.ext' h)
theorem strNe {a b : ByteArray} (h : ¬ a = b) : (a.toList == b.toList) = false := by
  rw [beq_eq_false_iff_ne]
  exact fun e => h (toL_inj e)
theorem drop_cons {α : Type} {xs : List α} {k : Nat} {x : α} (h : xs[k]? = some x) : xs.drop k = x :: xs.drop (k + 1) := by
  obtain ⟨hl, he⟩ := List.getElem?_eq_some_iff.1 h
  rw [List.drop_eq_getElem_cons hl, he]
end Go.Proofs.YtpnabggpdgjbmaaGreatDoor
namespace Go.Proofs.YtpnabggpdgjbmaaGreatDoor
open Go.RowKit Go.Sort
def ntEq (x y : Nt) : Bool := (x.name.toList == y.name.toList) && ((x.kind == y.kind) && ((x.num == y.num) && ((x.den == y.den) && (decide (x.terms = y.terms) && ((x.sp == y.sp) && ((x.sd == y.sd) && (x.sq == y.sq)))))))
def sameNt : List Nt → List Nt → Bool
  | [], [] => true
  | x :: xs, y :: ys => ntEq x y && sameNt xs ys
  | _, _ => false
theorem sameNt_step {xs ys : List Nt} {k : Nat} {x y : Nt} (hx : xs[k]? = some x) (hy : ys[k]? = some y) : sameNt (xs.drop k) (ys.drop k) = (ntEq x y && sameNt (xs.drop (k + 1)) (ys.drop (k + 1))) := by
  rw [drop_cons hx, drop_cons hy]; rfl
theorem sameNt_end {xs ys : List Nt} {k : Nat} (hx : xs.length ≤ k) (hy : ys.length ≤ k) : sameNt (xs.drop k) (ys.drop k) = true := by
  rw [List.drop_eq_nil_of_le hx, List.drop_eq_nil_of_le hy]; rfl
theorem sameNt_len : ∀ {xs ys : List Nt}, ¬ xs.length = ys.length → sameNt xs ys = false
  | [], [], h => absurd rfl h
  | [], _ :: _, _ => rfl
  | _ :: _, [], _ => rfl
  | x :: xs, y :: ys, h => by
    show (ntEq x y && sameNt xs ys) = false
    rw [sameNt_len (xs := xs) (ys := ys) (fun e => h (by simp [e])), Bool.and_false]
/-- Which part is the first to differ. -/
theorem ntEq_ways (x y : Nt) :
    ((x.name.toList == y.name.toList) = false ∧ ntEq x y = false) ∨
    ((x.name.toList == y.name.toList) = true ∧ (x.kind == y.kind) = false ∧ ntEq x y = false) ∨
    ((x.name.toList == y.name.toList) = true ∧ (x.kind == y.kind) = true ∧ (x.num == y.num) = false ∧ ntEq x y = false) ∨
    ((x.name.toList == y.name.toList) = true ∧ (x.kind == y.kind) = true ∧ (x.num == y.num) = true ∧ (x.den == y.den) = false ∧ ntEq x y = false) ∨
    ((x.name.toList == y.name.toList) = true ∧ (x.kind == y.kind) = true ∧ (x.num == y.num) = true ∧ (x.den == y.den) = true ∧ decide (x.terms = y.terms) = false ∧ ntEq x y = false) ∨
    ((x.name.toList == y.name.toList) = true ∧ (x.kind == y.kind) = true ∧ (x.num == y.num) = true ∧ (x.den == y.den) = true ∧ decide (x.terms = y.terms) = true ∧ (x.sp == y.sp) = false ∧ ntEq x y = false) ∨
    ((x.name.toList == y.name.toList) = true ∧ (x.kind == y.kind) = true ∧ (x.num == y.num) = true ∧ (x.den == y.den) = true ∧ decide (x.terms = y.terms) = true ∧ (x.sp == y.sp) = true ∧ (x.sd == y.sd) = false ∧ ntEq x y = false) ∨
    ((x.name.toList == y.name.toList) = true ∧ (x.kind == y.kind) = true ∧ (x.num == y.num) = true ∧ (x.den == y.den) = true ∧ decide (x.terms = y.terms) = true ∧ (x.sp == y.sp) = true ∧ (x.sd == y.sd) = true ∧ (x.sq == y.sq) = false ∧ ntEq x y = false) ∨
    ((x.name.toList == y.name.toList) = true ∧ (x.kind == y.kind) = true ∧ (x.num == y.num) = true ∧ (x.den == y.den) = true ∧ decide (x.terms = y.terms) = true ∧ (x.sp == y.sp) = true ∧ (x.sd == y.sd) = true ∧ (x.sq == y.sq) = true ∧ ntEq x y = true) := by
  unfold ntEq
  cases (x.name.toList == y.name.toList) <;> cases (x.kind == y.kind) <;> cases (x.num == y.num) <;> cases (x.den == y.den) <;> cases decide (x.terms = y.terms) <;> cases (x.sp == y.sp) <;> cases (x.sd == y.sd) <;> cases (x.sq == y.sq) <;> simp
set_option maxRecDepth 100000 in
set_option maxHeartbeats 4000000 in
theorem sameNote_any (x y : Nt) (T T' : Option Addr) (c d : Nat) (w : World) (hx : Rd (Value.int .i64) w w.heap.size T x.terms) (hy : Rd (Value.int .i64) w w.heap.size T' y.terms) (hf : x.terms.length ≤ maxLen) (hg : y.terms.length ≤ maxLen) :
    Calls Tryz.prog 70 #[ntV x.name x.kind x.num x.den T x.terms.length c x.sp x.sd x.sq, ntV y.name y.kind y.num y.den T' y.terms.length d y.sp y.sd y.sq] w fun e w' => e = .returned (.bool (ntEq x y)) ∧ Below w.heap.size w w' := by
  have HC := Lib.hid (fun o1 o2 : Obj => slicesEqual_any T T' c d x.terms y.terms ((w.alloc o1).alloc o2) (hx.next (ext_alloc (ext1 _ _) _)) (hy.next (ext_alloc (ext1 _ _) _)) hf hg)
  clear hx hy hf hg
  have q1 := Tryz.eqGuardType26
  have q2 := Tryz.stoodInHeld26
  have q3 := Tryz.eqGuardType29
  have q4 := Tryz.stoodInHeld29
  rcases ntEq_ways x y with ⟨h1, hR⟩ | ⟨h1, h2, hR⟩ | ⟨h1, h2, h3, hR⟩ | ⟨h1, h2, h3, h4, hR⟩ | ⟨h1, h2, h3, h4, h5, hR⟩ | ⟨h1, h2, h3, h4, h5, h6, hR⟩ | ⟨h1, h2, h3, h4, h5, h6, h7, hR⟩ | ⟨h1, h2, h3, h4, h5, h6, h7, h8, hR⟩ | ⟨h1, h2, h3, h4, h5, h6, h7, h8, hR⟩
  iterate 4
    · rw [hR]
      clear hR HC
      unfold ntV
      go_enter Tryz.func70, Tryz.ntmps70
      go_wp2
      go_ret
      exact ⟨rfl, ext_alloc (ext_alloc (Below.refl _ _) _) _⟩
  all_goals
    rw [hR]
    clear hR
    rw [h5] at HC
    clear h5
    unfold ntV
    go_enter Tryz.func70, Tryz.ntmps70
    go_wp2_with fail
    refine (HC.out _ _).mono ?_
    rintro e w1 ⟨rfl, hb1⟩
    obtain ⟨hc1, hf1⟩ := bcell hb1
    have hy1 := hb1.size
    (try simp at hy1)
    have hz0 : w.heap.size < w1.heap.size := by omega
    have hz1 : w.heap.size + 1 < w1.heap.size := by omega
    go_wp2
    go_ret
    exact ⟨rfl, ext_trans (ext_alloc (ext_alloc (Below.refl _ _) _) _) hb1⟩
theorem equalFuncNt_any (A B : Option Addr) (c d : Nat) (xs ys : List Nt) (w : World) (hx : RdNt w w.heap.size A xs) (hy : RdNt w w.heap.size B ys) (hf : ∀ x ∈ xs, x.fits) (hg : ∀ y ∈ ys, y.fits) (hl : xs.length ≤ maxLen) :
    Calls Tryz.prog 69 #[.slice A xs.length c, .slice B ys.length d, .func (Fn.func 70) #[] #[]] w fun e w' => e = .returned (.bool (sameNt xs ys)) ∧ Below w.heap.size w w' := by
  unfold maxLen at hl
  have HF := Lib.hid hf
  have HG := Lib.hid hg
  clear hf hg
  by_cases hlen : xs.length = ys.length
  · have hl0 : ((xs.length : Int) != (ys.length : Int)) = false := by simp [hlen]
    have hl1 : xs.length ≤ ys.length := by omega
    have hl2 : ys.length ≤ xs.length := by omega
    clear hlen
    obtain ⟨R, hR⟩ : ∃ R, sameNt xs ys = R := ⟨_, rfl⟩
    rw [hR]
    have HR := Lib.hid hR
    clear hR
    go_enter Tryz.func69, Tryz.ntmps69
    go_wp2_with fail
    go_loopw [17] (fun t wr => ∃ k : Nat, k ≤ xs.length ∧ t = .int .i64 k ∧ Hid (sameNt (xs.drop k) (ys.drop k) = R) ∧ Below w.heap.size w wr) (fun t _ => xs.length - (intOf t).toNat)
    case atStart => exact ⟨0, by omega, rfl, HR.out, Below.refl _ _⟩
    case round =>
      obtain ⟨k, hk, rfl, HK, hbe⟩ := hrel
      by_cases hlt : k < xs.length
      · obtain ⟨b, off, rfl, hb, hc⟩ := (hx.next hbe) (by omega)
        obtain ⟨b', off', rfl, hb', hc'⟩ := (hy.next hbe) (by omega)
        obtain ⟨x, hxk⟩ : ∃ x, xs[k]? = some x := ⟨_, List.getElem?_eq_getElem hlt⟩
        obtain ⟨y, hyk⟩ : ∃ y, ys[k]? = some y := ⟨_, List.getElem?_eq_getElem (by omega)⟩
        obtain ⟨T, ct, cr, cT⟩ := hc k x hxk
        obtain ⟨T', ct', dr, dT⟩ := hc' k y hyk
        have hfx := (HF.out x (List.mem_of_getElem? hxk)).2
        have hfy := (HG.out y (List.mem_of_getElem? hyk)).2
        have HS := Lib.hid (sameNt_step hxk hyk)
        have HC := Lib.hid (fun V hb => sameNote_any x y T T' ct ct' V (cT.1.next (w' := V) hb) (dT.1.next hb) hfx hfy)
        obtain ⟨c0, c1, c2, c3, c4, c5, c6, c7⟩ := cr.nt
        obtain ⟨d0, d1, d2, d3, d4, d5, d6, d7⟩ := dr.nt
        clear hc hc' hxk hyk cr dr cT dT hfx hfy
        have i0 : (0 : Int) ≤ (k : Int) := by omega
        have i1 : (k : Int) < (xs.length : Int) := by omega
        have i2 : (k : Int) < (ys.length : Int) := by omega
        cases ht : ntEq x y
        · rw [ht] at HC
          have HE : Hid (R = false) := by
            have h := HK.out
            rw [HS.out, ht, Bool.false_and] at h
            exact h.symm
          clear ht
          go_wp2_with fail
          refine (HC.out _ (ext_alloc (ext1 _ _) _)).mono ?_
          rintro e w2 ⟨rfl, hb2⟩
          go_wp2
          go_ret
          exact ⟨ret_bool HE.out.symm, ext_trans (ext_alloc (ext_alloc hbe _) _) hb2⟩
        · rw [ht] at HC
          have HE : Hid (sameNt (xs.drop (k + 1)) (ys.drop (k + 1)) = R) := by
            have h := HK.out
            rw [HS.out, ht, Bool.true_and] at h
            exact h
          clear ht
          go_wp2_with fail
          refine (HC.out _ (ext_alloc (ext1 _ _) _)).mono ?_
          rintro e w2 ⟨rfl, hb2⟩
          go_wp2
          go_roundw
          case rel => exact ⟨k + 1, by omega, by go_num, HE.out, ext_trans (ext_alloc (ext_alloc hbe _) _) hb2⟩
          case measure => simp [intOf]; omega
      · have HE : Hid (R = true) := by
          rw [← HK.out]
          exact sameNt_end (by omega) (by omega)
        go_wp2
        go_ret
        exact ⟨ret_bool HE.out.symm, hbe⟩
  · rw [sameNt_len hlen]
    have hl0 : ((xs.length : Int) != (ys.length : Int)) = true := by simp; omega
    go_enter Tryz.func69, Tryz.ntmps69
    go_wp2
    go_ret
    exact ⟨rfl, Below.refl _ _⟩
theorem iSameNotes_any (A B : Option Addr) (c d : Nat) (xs ys : List Nt) (w : World) (hx : RdNt w w.heap.size A xs) (hy : RdNt w w.heap.size B ys) (hf : ∀ x ∈ xs, x.fits) (hg : ∀ y ∈ ys, y.fits) (hl : xs.length ≤ maxLen) :
    Calls Tryz.prog 27 #[.slice A xs.length c, .slice B ys.length d] w fun e w' => e = .returned (.bool (sameNt xs ys)) ∧ Below w.heap.size w w' := by
  have HC := Lib.hid (equalFuncNt_any A B c d xs ys w hx hy hf hg hl)
  go_enter Tryz.func27, Tryz.ntmps27
  go_wp2_with fail
  refine HC.out.mono ?_
  rintro e w1 ⟨rfl, hb1⟩
  go_wp2
  go_ret
  exact ⟨rfl, hb1⟩
set_option maxRecDepth 100000 in
set_option maxHeartbeats 4000000 in
theorem l27Same_any (b o b' o' : Nat) (x y : Nt) (T T' : Option Addr) (c d : Nat) (w : World) (hxr : NtAt w b o x T c) (hyr : NtAt w b' o' y T' d) (hx : Rd (Value.int .i64) w w.heap.size T x.terms) (hy : Rd (Value.int .i64) w w.heap.size T' y.terms) (hf : x.terms.length ≤ maxLen) (hg : y.terms.length ≤ maxLen) :
    Calls Tryz.prog 68 #[.pointer (some ⟨b, o, none⟩), .pointer (some ⟨b', o', none⟩)] w fun e w' => e = .returned (.bool (ntEq x y)) ∧ Below w.heap.size w w' := by
  have HC := Lib.hid (fun V hb => l00Same_any T T' c d x.terms y.terms V (hx.next (w' := V) hb) (hy.next hb) hf hg)
  clear hx hy hf hg
  have q1 := Tryz.eqGuardType26
  have q2 := Tryz.stoodInHeld26
  have q3 := Tryz.eqGuardType29
  have q4 := Tryz.stoodInHeld29
  obtain ⟨c0, c1, c2, c3, c4, c5, c6, c7⟩ := hxr
  obtain ⟨d0, d1, d2, d3, d4, d5, d6, d7⟩ := hyr
  have k0 : ∀ x os, (grow (redrawn w x) os).cell? _ = _ := cell_regrown c0
  have k1 : ∀ x os, (grow (redrawn w x) os).cell? _ = _ := cell_regrown c1
  have k2 : ∀ x os, (grow (redrawn w x) os).cell? _ = _ := cell_regrown c2
  have k3 : ∀ x os, (grow (redrawn w x) os).cell? _ = _ := cell_regrown c3
  have k4 : ∀ x os, (grow (redrawn w x) os).cell? _ = _ := cell_regrown c4
  have k5 : ∀ x os, (grow (redrawn w x) os).cell? _ = _ := cell_regrown c5
  have k6 : ∀ x os, (grow (redrawn w x) os).cell? _ = _ := cell_regrown c6
  have k7 : ∀ x os, (grow (redrawn w x) os).cell? _ = _ := cell_regrown c7
  have l0 : ∀ x os, (grow (redrawn w x) os).cell? _ = _ := cell_regrown d0
  have l1 : ∀ x os, (grow (redrawn w x) os).cell? _ = _ := cell_regrown d1
  have l2 : ∀ x os, (grow (redrawn w x) os).cell? _ = _ := cell_regrown d2
  have l3 : ∀ x os, (grow (redrawn w x) os).cell? _ = _ := cell_regrown d3
  have l4 : ∀ x os, (grow (redrawn w x) os).cell? _ = _ := cell_regrown d4
  have l5 : ∀ x os, (grow (redrawn w x) os).cell? _ = _ := cell_regrown d5
  have l6 : ∀ x os, (grow (redrawn w x) os).cell? _ = _ := cell_regrown d6
  have l7 : ∀ x os, (grow (redrawn w x) os).cell? _ = _ := cell_regrown d7
  clear c0 c1 c2 c3 c4 c5 c6 c7 d0 d1 d2 d3 d4 d5 d6 d7
  rcases ntEq_ways x y with ⟨h1, hR⟩ | ⟨h1, h2, hR⟩ | ⟨h1, h2, h3, hR⟩ | ⟨h1, h2, h3, h4, hR⟩ | ⟨h1, h2, h3, h4, h5, hR⟩ | ⟨h1, h2, h3, h4, h5, h6, hR⟩ | ⟨h1, h2, h3, h4, h5, h6, h7, hR⟩ | ⟨h1, h2, h3, h4, h5, h6, h7, h8, hR⟩ | ⟨h1, h2, h3, h4, h5, h6, h7, h8, hR⟩
  all_goals
    rw [hR]
    clear hR
    (try rw [h5] at HC)
    (try clear h5)
    go_enter Tryz.func68, Tryz.ntmps68
    go_wp2_with fail
    refine wp_region_quiet_below (by kernel_rfl) (by kernel_rfl) ?_
    repeat (first | go_big_quiet_step ((with_reducible exact Calls.regrown_of (HC.out _ (below_regrown _ _ _)))) | quiet_step ((with_reducible exact Calls.regrown_of (HC.out _ (below_regrown _ _ _)))))
    refine wpQuiet_nil ?_
    intro _ hw'
    obtain ⟨⟨dq, oq⟩, hw''⟩ := hw'
    subst hw''
    go_wp2
    go_ret
    exact ⟨rfl, below_regrown _ _ _⟩
set_option maxHeartbeats 1000000 in
theorem sSameNotes_any (A B : Option Addr) (c d : Nat) (xs ys : List Nt) (w : World) (hx : RdNt w w.heap.size A xs) (hy : RdNt w w.heap.size B ys) (hf : ∀ x ∈ xs, x.fits) (hg : ∀ y ∈ ys, y.fits) (hl : xs.length ≤ maxLen) :
    Calls Tryz.prog 25 #[.slice A xs.length c, .slice B ys.length d] w fun e w' => e = .returned (.bool (sameNt xs ys)) ∧ Below w.heap.size w w' := by
  unfold maxLen at hl
  have HF := Lib.hid hf
  have HG := Lib.hid hg
  clear hf hg
  by_cases hlen : xs.length = ys.length
  · have hl0 : ((xs.length : Int) != (ys.length : Int)) = false := by simp [hlen]
    have hl1 : xs.length ≤ ys.length := by omega
    have hl2 : ys.length ≤ xs.length := by omega
    clear hlen
    obtain ⟨R, hR⟩ : ∃ R, sameNt xs ys = R := ⟨_, rfl⟩
    rw [hR]
    have HR := Lib.hid hR
    clear hR
    go_enter Tryz.func25, Tryz.ntmps25
    go_wp2_with fail
    go_loopw [5] (fun t wr => ∃ k : Nat, k ≤ xs.length ∧ t = .int .i64 k ∧ Hid (sameNt (xs.drop k) (ys.drop k) = R) ∧ Below w.heap.size w wr) (fun t _ => xs.length - (intOf t).toNat)
    case atStart => exact ⟨0, by omega, rfl, HR.out, Below.refl _ _⟩
    case round =>
      obtain ⟨k, hk, rfl, HK, hbe⟩ := hrel
      by_cases hlt : k < xs.length
      · obtain ⟨b, off, rfl, hb, hc⟩ := (hx.next hbe) (by omega)
        obtain ⟨b', off', rfl, hb', hc'⟩ := (hy.next hbe) (by omega)
        obtain ⟨x, hxk⟩ : ∃ x, xs[k]? = some x := ⟨_, List.getElem?_eq_getElem hlt⟩
        obtain ⟨y, hyk⟩ : ∃ y, ys[k]? = some y := ⟨_, List.getElem?_eq_getElem (by omega)⟩
        obtain ⟨T, ct, cr, cT⟩ := hc k x hxk
        obtain ⟨T', ct', dr, dT⟩ := hc' k y hyk
        have hfx := (HF.out x (List.mem_of_getElem? hxk)).2
        have hfy := (HG.out y (List.mem_of_getElem? hyk)).2
        have HS := Lib.hid (sameNt_step hxk hyk)
        have HC := Lib.hid (fun V (h : Below wr.heap.size wr V) => l27Same_any b (off + k * 8) b' (off' + k * 8) x y T T' ct ct' V (cr.below h hb).nt (dr.below h hb').nt (cT.1.next h) (dT.1.next h) hfx hfy)
        clear hc hc' hxk hyk cr dr cT dT hfx hfy
        have i0 : (0 : Int) ≤ (k : Int) := by omega
        have i1 : (k : Int) < (xs.length : Int) := by omega
        have i2 : (k : Int) < (ys.length : Int) := by omega
        cases ht : ntEq x y
        · rw [ht] at HC
          have HE : Hid (R = false) := by
            have h := HK.out
            rw [HS.out, ht, Bool.false_and] at h
            exact h.symm
          clear ht
          go_wp2_with fail
          refine wp_region_quiet_below (by kernel_rfl) (by kernel_rfl) ?_
          repeat (first | go_big_quiet_step ((with_reducible exact Calls.regrown_of (HC.out _ (below_regrown _ _ _)))) | quiet_step ((with_reducible exact Calls.regrown_of (HC.out _ (below_regrown _ _ _)))))
          refine wpQuiet_nil ?_
          intro _ hw'
          obtain ⟨⟨dq, oq⟩, hw''⟩ := hw'
          subst hw''
          go_wp2
          go_ret
          exact ⟨ret_bool HE.out.symm, ext_trans hbe (below_regrown _ _ _)⟩
        · rw [ht] at HC
          have HE : Hid (sameNt (xs.drop (k + 1)) (ys.drop (k + 1)) = R) := by
            have h := HK.out
            rw [HS.out, ht, Bool.true_and] at h
            exact h
          clear ht
          go_wp2_with fail
          refine wp_region_quiet_below (by kernel_rfl) (by kernel_rfl) ?_
          repeat (first | go_big_quiet_step ((with_reducible exact Calls.regrown_of (HC.out _ (below_regrown _ _ _)))) | quiet_step ((with_reducible exact Calls.regrown_of (HC.out _ (below_regrown _ _ _)))))
          refine wpQuiet_nil ?_
          intro _ hw'
          obtain ⟨⟨dq, oq⟩, hw''⟩ := hw'
          subst hw''
          go_wp2
          go_roundw
          case rel => exact ⟨k + 1, by omega, by go_num, HE.out, ext_trans hbe (below_regrown _ _ _)⟩
          case measure => simp [intOf]; omega
      · have HE : Hid (R = true) := by
          rw [← HK.out]
          exact sameNt_end (by omega) (by omega)
        go_wp2
        go_ret
        exact ⟨ret_bool HE.out.symm, hbe⟩
  · rw [sameNt_len hlen]
    have hl0 : ((xs.length : Int) != (ys.length : Int)) = true := by simp; omega
    go_enter Tryz.func25, Tryz.ntmps25
    go_wp2
    go_ret
    exact ⟨rfl, Below.refl _ _⟩
end Go.Proofs.YtpnabggpdgjbmaaGreatDoor
namespace Go.Proofs.YtpnabggpdgjbmaaGreatDoor
open Go.RowKit Go.Sort
def Nt.zF (x : Nt) : Bool := (x.num == 0) && (x.den == 0)
def Nt.zT (x : Nt) : Bool := decide (x.terms.length = 0)
def Nt.zS (x : Nt) : Bool := (x.sp == 0) && ((x.sd == 0) && (x.sq == 0))
def ntOk (x : Nt) : Bool := nameB x.name && (if x.kind = 1 then fracOk x.num x.den && (x.zT && x.zS) else if x.kind = 2 then termsB x.terms && (x.zF && x.zS) else if x.kind = 3 then surdB x.sp x.sd x.sq && (x.zF && x.zT) else false)
def NtKind (K : Nat) (k : Int) : Prop := match K with
  | 1 => k = 1
  | 2 => k = 2
  | 3 => k = 3
  | _ => (k == 1) = false ∧ (k == 2) = false ∧ (k == 3) = false
def ntRes (K : Nat) (x : Nt) : Bool := match K with
  | 1 => fracOk x.num x.den && (x.zT && x.zS)
  | 2 => termsB x.terms && (x.zF && x.zS)
  | 3 => surdB x.sp x.sd x.sq && (x.zF && x.zT)
  | _ => false
theorem zF_ways (x : Nt) : ((x.num == 0) = false ∧ x.zF = false) ∨ ((x.num == 0) = true ∧ (x.den == 0) = false ∧ x.zF = false) ∨ ((x.num == 0) = true ∧ (x.den == 0) = true ∧ x.zF = true) := by
  unfold Nt.zF
  cases (x.num == 0) <;> cases (x.den == 0) <;> simp
theorem zS_ways (x : Nt) : ((x.sp == 0) = false ∧ x.zS = false) ∨ ((x.sp == 0) = true ∧ (x.sd == 0) = false ∧ x.zS = false) ∨ ((x.sp == 0) = true ∧ (x.sd == 0) = true ∧ (x.sq == 0) = false ∧ x.zS = false) ∨ ((x.sp == 0) = true ∧ (x.sd == 0) = true ∧ (x.sq == 0) = true ∧ x.zS = true) := by
  unfold Nt.zS
  cases (x.sp == 0) <;> cases (x.sd == 0) <;> cases (x.sq == 0) <;> simp
theorem zeroNil (x : Nt) : ((x.terms.length : Int) == 0) = x.zT := by
  unfold Nt.zT
  rw [Bool.eq_iff_iff]; simp
theorem ntOk_ways (x : Nt) :
    (nameB x.name = false ∧ ntOk x = false) ∨ (nameB x.name = true ∧ x.kind = 1 ∧ ntOk x = (fracOk x.num x.den && (x.zT && x.zS))) ∨ (nameB x.name = true ∧ x.kind = 2 ∧ ntOk x = (termsB x.terms && (x.zF && x.zS))) ∨
    (nameB x.name = true ∧ x.kind = 3 ∧ ntOk x = (surdB x.sp x.sd x.sq && (x.zF && x.zT))) ∨ (nameB x.name = true ∧ (x.kind == 1) = false ∧ (x.kind == 2) = false ∧ (x.kind == 3) = false ∧ ntOk x = false) := by
  unfold ntOk
  cases h : nameB x.name
  · exact .inl ⟨rfl, rfl⟩
  · right
    by_cases h1 : x.kind = 1
    · left; simp [h1]
    · by_cases h2 : x.kind = 2
      · right; left; simp [h2]
      · by_cases h3 : x.kind = 3
        · right; right; left; simp [h3]
        · right; right; right; simp [h1, h2, h3]
end Go.Proofs.YtpnabggpdgjbmaaGreatDoor
