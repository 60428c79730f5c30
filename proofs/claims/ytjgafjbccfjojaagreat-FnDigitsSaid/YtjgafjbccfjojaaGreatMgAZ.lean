/- Parts of the proof, merged: LsW DqW DgLawW F6W. No condition but those that each theorem names. -/
import Derived.Test.YtjgafjbccfjojaaGreatMgAY
import Derived.Test.YtjgafjbccfjojaaGreatMgAK
import Derived.Test.YtjgafjbccfjojaaGreatMgAT
import Derived.Deep.RegionHeld3
import Derived.IntWalk
import Derived.Test.YtjgafjbccfjojaaGreatMgAI
import Derived.Test.YtjgafjbccfjojaaGreatMgAJ
import Derived.Test.YtjgafjbccfjojaaGreatMgAO
import Derived.Test.YtjgafjbccfjojaaGreatMgAA
namespace Go.Proofs.YtjgafjbccfjojaaGreat
open Go.RowKit Go.Sort
/-- What a draw of a list of terms returns: a row of the call's own. -/
def RetLn (g B N : Nat) (w : World) (e : Ending) (w' : World) : Prop := ∃ (xs : List Int) (v : Value), e = .returned v ∧ 1 ≤ xs.length ∧ xs.length ≤ 9 ∧ SL g B N w xs v w'
set_option maxRecDepth 100000 in
set_option maxHeartbeats 2000000 in
theorem l03Draw9_any (g B N : Nat) (w : World) (h : Src g B N w) (hN : N ≤ 800000) :
    Calls Tryz.prog 72 #[.pointer (some ⟨g, 0, none⟩), .int .i64 9] w (RetLn g B (N + 100) w) := by
  obtain ⟨ti, hi, hz0, hz1, hz2⟩ := info_parts info64
  have HI := Lib.hid hi
  have HG := Lib.hid h.lt
  have HS := Lib.hid h
  clear h hi
  go_enter Tryz.func72, Tryz.ntmps72
  go_wp2_with fail
  refine (srcPick_any g B N 21 _ HS.out (by omega) (by omega)).mono ?_
  rintro e w1 ⟨x, x1, x2, rfl, S1, K1⟩
  have T : Hid (SL g B (N + 2) w [x - 10] (.slice (some ⟨w1.heap.size, 0, none⟩) 1 1) (w1.alloc (.cells #[.int .i64 (x - 10)] 2))) :=
    ⟨S1.next (ext1 _ _), K1.trans (Keep.of (ext1 _ _) S1.lt), by
      have h := World.ownsRow_lit (base := w.heap.size) (e := 2) (size := 1) w1 #[.int .i64 (x - 10)] 1 K1.2.1 (by unfold maxLen; omega) rfl
      simpa using h, HG.out⟩
  clear S1 K1 HS
  go_wp2_with fail
  generalize w1.alloc (.cells #[.int .i64 (x - 10)] 2) = W1 at *
  refine (srcPick_any g B _ 9 _ T.out.src (by omega) (by omega)).mono ?_
  rintro e w2 ⟨k, k1, k2, rfl, S2, K2⟩
  have T := Lib.hid (T.out.kept S2 K2)
  generalize w1.heap.size = h1 at *
  clear S2 K2
  obtain ⟨m, rfl⟩ : ∃ m : Nat, k = (m : Int) := ⟨k.toNat, by omega⟩
  have hm3 : m ≤ 8 := by omega
  clear k1 k2
  go_wp2_with fail
  go_loopw [6, 5] (fun t v wr => ∃ (k : Nat) (out : List Int) (h c : Nat), t = .int .i64 k ∧ k ≤ 8 ∧ v = .slice (some ⟨h, 0, none⟩) out.length c ∧ 1 ≤ out.length ∧ out.length + k ≤ 9 ∧ Hid (SL g B (N + 4 + 8 * (8 - k)) w out v wr)) (fun t _ _ => (intOf t).toNat)
  case atStart => exact ⟨m, [x - 10], h1, 1, rfl, hm3, rfl, by simp, by simp; omega, T.out.more (by omega)⟩
  case round =>
    obtain ⟨k, out, h, c, rfl, hk, rfl, ho1, ho2, HT⟩ := hrel
    clear T
    have T := HT
    clear HT
    by_cases h0 : 0 < k
    · skip
      go_wp2_with fail
      refine (srcPick_any g B _ 6 _ T.out.src (by omega) (by omega)).mono ?_
      rintro e w3 ⟨y, y1, y2, rfl, S3, K3⟩
      have T := Lib.hid (T.out.kept S3 K3)
      clear S3 K3
      go_wp2_with fail
      refine (srcOne_any g B _ 8 _ T.out.src (by omega) (by omega)).mono ?_
      rintro e w4 ⟨b, rfl, S3, K3⟩
      have T := Lib.hid (T.out.kept S3 K3)
      clear S3 K3
      cases b
      · skip
        go_wp2_with fail
        refine (srcOne_any g B _ 3 _ T.out.src (by omega) (by omega)).mono ?_
        rintro e w5 ⟨d, rfl, S3, K3⟩
        have T := Lib.hid (T.out.kept S3 K3)
        clear S3 K3
        cases d
        · skip
          have hown := (T.out.next (ext1 w5 (.cells #[.int .i64 (1 + y)] 2))).row
          have hb4 : w.heap.size ≤ w5.heap.size + 1 := Nat.le_succ_of_le T.out.keep.2.1
          go_wp2_with (at_builtin; go_must (refine wpList_append_lies _ rfl _ _ 24 rfl w.heap.size 2 ti (.int .i64 0) 1 8 Tryz.underlying24 HI.out hz0 hz1 hz2 rfl (by decide) _ _ _ rfl hown ⟨w5.heap.size, 0, none⟩ 1 1 [.int .i64 (1 + y)] rfl rfl (news_row1 _ _ _ rfl) ?c2 (by omega) ?c3 ?c4 ?c5 _ rfl ?_))
          case c2 => simp [Value.oneCell']
          case c3 => unfold maxLen; omega
          case c4 => omega
          case c5 => simp; exact hb4
          intro g6 cap6 w6 hown6 hgrow _ _
          have T6 := Lib.hid (SL.push (x := 1 + y) (T.out.next (ext1 w5 (.cells #[.int .i64 (1 + y)] 2))) hown6 hgrow)
          have HLQ : Hid ((out ++ [1 + y]).length = out.length + 1) := by unfold Hid; rw [List.length_append]; rfl
          clear hown6 hgrow hown
          go_wp2
          go_roundw
          case rel => exact ⟨k - 1, out ++ [1 + y], g6, cap6, val_int (by omega), by omega, by rw [HLQ.out], by rw [HLQ.out]; omega, by rw [HLQ.out]; omega, T6.out.more (by omega)⟩
          case measure => simp [intOf]; omega
        · skip
          have hown := (T.out.next (ext1 w5 (.cells #[.int .i64 (1)] 2))).row
          have hb4 : w.heap.size ≤ w5.heap.size + 1 := Nat.le_succ_of_le T.out.keep.2.1
          go_wp2_with (at_builtin; go_must (refine wpList_append_lies _ rfl _ _ 24 rfl w.heap.size 2 ti (.int .i64 0) 1 8 Tryz.underlying24 HI.out hz0 hz1 hz2 rfl (by decide) _ _ _ rfl hown ⟨w5.heap.size, 0, none⟩ 1 1 [.int .i64 (1)] rfl rfl (news_row1 _ _ _ rfl) ?c2 (by omega) ?c3 ?c4 ?c5 _ rfl ?_))
          case c2 => simp [Value.oneCell']
          case c3 => unfold maxLen; omega
          case c4 => omega
          case c5 => simp; exact hb4
          intro g6 cap6 w6 hown6 hgrow _ _
          have T6 := Lib.hid (SL.push (x := 1) (T.out.next (ext1 w5 (.cells #[.int .i64 (1)] 2))) hown6 hgrow)
          have HLQ : Hid ((out ++ [1]).length = out.length + 1) := by unfold Hid; rw [List.length_append]; rfl
          clear hown6 hgrow hown
          go_wp2
          go_roundw
          case rel => exact ⟨k - 1, out ++ [1], g6, cap6, val_int (by omega), by omega, by rw [HLQ.out], by rw [HLQ.out]; omega, by rw [HLQ.out]; omega, T6.out.more (by omega)⟩
          case measure => simp [intOf]; omega
      · skip
        go_wp2_with fail
        refine (srcPick_any g B _ 60 _ T.out.src (by omega) (by omega)).mono ?_
        rintro e w5 ⟨z, z1, z2, rfl, S3, K3⟩
        have T := Lib.hid (T.out.kept S3 K3)
        clear S3 K3
        go_wp2_with fail
        refine (srcOne_any g B _ 3 _ T.out.src (by omega) (by omega)).mono ?_
        rintro e w6' ⟨d, rfl, S3, K3⟩
        have T := Lib.hid (T.out.kept S3 K3)
        clear S3 K3
        cases d
        · skip
          have hown := (T.out.next (ext1 w6' (.cells #[.int .i64 (1 + z)] 2))).row
          have hb4 : w.heap.size ≤ w6'.heap.size + 1 := Nat.le_succ_of_le T.out.keep.2.1
          go_wp2_with (at_builtin; go_must (refine wpList_append_lies _ rfl _ _ 24 rfl w.heap.size 2 ti (.int .i64 0) 1 8 Tryz.underlying24 HI.out hz0 hz1 hz2 rfl (by decide) _ _ _ rfl hown ⟨w6'.heap.size, 0, none⟩ 1 1 [.int .i64 (1 + z)] rfl rfl (news_row1 _ _ _ rfl) ?c2 (by omega) ?c3 ?c4 ?c5 _ rfl ?_))
          case c2 => simp [Value.oneCell']
          case c3 => unfold maxLen; omega
          case c4 => omega
          case c5 => simp; exact hb4
          intro g6 cap6 w6 hown6 hgrow _ _
          have T6 := Lib.hid (SL.push (x := 1 + z) (T.out.next (ext1 w6' (.cells #[.int .i64 (1 + z)] 2))) hown6 hgrow)
          have HLQ : Hid ((out ++ [1 + z]).length = out.length + 1) := by unfold Hid; rw [List.length_append]; rfl
          clear hown6 hgrow hown
          go_wp2
          go_roundw
          case rel => exact ⟨k - 1, out ++ [1 + z], g6, cap6, val_int (by omega), by omega, by rw [HLQ.out], by rw [HLQ.out]; omega, by rw [HLQ.out]; omega, T6.out.more (by omega)⟩
          case measure => simp [intOf]; omega
        · skip
          have hown := (T.out.next (ext1 w6' (.cells #[.int .i64 (1)] 2))).row
          have hb4 : w.heap.size ≤ w6'.heap.size + 1 := Nat.le_succ_of_le T.out.keep.2.1
          go_wp2_with (at_builtin; go_must (refine wpList_append_lies _ rfl _ _ 24 rfl w.heap.size 2 ti (.int .i64 0) 1 8 Tryz.underlying24 HI.out hz0 hz1 hz2 rfl (by decide) _ _ _ rfl hown ⟨w6'.heap.size, 0, none⟩ 1 1 [.int .i64 (1)] rfl rfl (news_row1 _ _ _ rfl) ?c2 (by omega) ?c3 ?c4 ?c5 _ rfl ?_))
          case c2 => simp [Value.oneCell']
          case c3 => unfold maxLen; omega
          case c4 => omega
          case c5 => simp; exact hb4
          intro g6 cap6 w6 hown6 hgrow _ _
          have T6 := Lib.hid (SL.push (x := 1) (T.out.next (ext1 w6' (.cells #[.int .i64 (1)] 2))) hown6 hgrow)
          have HLQ : Hid ((out ++ [1]).length = out.length + 1) := by unfold Hid; rw [List.length_append]; rfl
          clear hown6 hgrow hown
          go_wp2
          go_roundw
          case rel => exact ⟨k - 1, out ++ [1], g6, cap6, val_int (by omega), by omega, by rw [HLQ.out], by rw [HLQ.out]; omega, by rw [HLQ.out]; omega, T6.out.more (by omega)⟩
          case measure => simp [intOf]; omega
    · have HRT : Hid (RetLn g B (N + 100) w (.returned (.slice (some ⟨h, 0, none⟩) out.length c)) wr) := ⟨out, _, rfl, by omega, by omega, T.out.more (by omega)⟩
      clear T
      go_wp2
      go_ret
      exact HRT.out
/-- What a draw of terms returns that may be bent. -/
def RetLb (g B N : Nat) (w : World) (e : Ending) (w' : World) : Prop := ∃ (xs : List Int) (A : Option Addr) (c : Nat), e = .returned (.slice A xs.length c) ∧ OwnR w' w.heap.size (.slice A xs.length c) xs ∧ xs.length ≤ 61 ∧ Src g B N w' ∧ Keep g w w'
theorem SL.retb {g B N M : Nat} {w W : World} {out : List Int} {A : Option Addr} {n c : Nat} (t : SL g B N w out (.slice A n c) W) (hn : out.length = n) (hM : N ≤ M) (hl : out.length ≤ 61) : RetLb g B M w (.returned (.slice A n c)) W := by
  subst hn
  exact ⟨out, A, c, rfl, t.row, hl, t.src.more hM, t.keep⟩
theorem SL.setAt {g B N g6 c j : Nat} {w W : World} {xs : List Int} {y : Int} (t : SL g B N w xs (.slice (some ⟨g6, 0, none⟩) xs.length c) W) : SL g B N w (xs.set j y) (.slice (some ⟨g6, 0, none⟩) xs.length c) (W.setCell ⟨g6, j, none⟩ (.int .i64 y)) := by
  have hg6 := t.row.lt g6 rfl
  have hg := t.hg
  have k1 := (World.ownsRow.stored t.row j (.int .i64 y)).1
  refine ⟨t.src.setOther (by omega) _ _, t.keep.setOther hg (by omega) _ _, ?_, hg⟩
  rw [List.length_set, List.map_set]
  exact k1
theorem SL.lit {g B N : Nat} {w W : World} (hs : Src g B N W) (hk : Keep g w W) (hg : g < w.heap.size) (C : Array Value) (xs : List Int) (h : C.toList = xs.map (Value.int .i64)) (hn : xs.length ≤ 100) :
    SL g B N w xs (.slice (some ⟨W.heap.size, 0, none⟩) xs.length xs.length) (W.alloc (.cells C 2)) :=
  ⟨hs.next (ext1 _ _), hk.trans (Keep.of (ext1 _ _) hs.lt), lit_own W w.heap.size C xs h hk.2.1 hn, hg⟩
set_option maxRecDepth 100000 in
set_option maxHeartbeats 4000000 in
theorem l03Bent_any (g B N : Nat) (w : World) (h : Src g B N w) (hN : N ≤ 600000) :
    Calls Tryz.prog 43 #[.pointer (some ⟨g, 0, none⟩)] w (RetLb g B (N + 110) w) := by
  obtain ⟨ti, hi, hz0, hz1, hz2⟩ := info_parts info64
  have HI := Lib.hid hi
  have HG := Lib.hid h.lt
  have HS := Lib.hid h
  clear h hi
  go_enter Tryz.func43, Tryz.ntmps43
  go_wp2_with fail
  refine (l03Draw9_any g B N _ HS.out (by omega)).mono ?_
  rintro e w1 ⟨xs, v, rfl, hl1, hl9, T1⟩
  have T := Lib.hid T1
  obtain ⟨A, c, rfl⟩ := own_slice T1.row
  obtain ⟨g6, hg6⟩ : ∃ g6, A = some ⟨g6, 0, none⟩ := by
    rcases T1.row.2 with ⟨hn, hn2⟩ | ⟨g', cap, cur, hv, _⟩
    · omega
    · injection hv with hv
      exact ⟨g', hv⟩
  subst hg6
  clear T1 HS
  go_wp2_with fail
  refine (srcPick_any g B _ 20 _ T.out.src (by omega) (by omega)).mono ?_
  rintro e w2 ⟨k, k1, k2, rfl, S2, K2⟩
  have T := Lib.hid (T.out.kept S2 K2)
  clear S2 K2
  by_cases e0 : k = 0
  · go_wp2_with fail
    refine (srcPick_any g B _ (xs.length : Int) _ T.out.src (by omega) (by omega)).mono ?_
    rintro e w3 ⟨m, m1, m2, rfl, S3, K3⟩
    have T := Lib.hid (T.out.kept S3 K3)
    clear S3 K3
    obtain ⟨m, rfl⟩ : ∃ j : Nat, m = (j : Int) := ⟨m.toNat, by omega⟩
    have hm : m < xs.length := by omega
    have i0 : (0 : Int) ≤ (m : Int) := by omega
    have i1 : (m : Int) < (xs.length : Int) := by omega
    have hgl := T.out.src.lt
    go_wp2_with fail
    refine (srcAmong_any g B _ _ _ [-1, 0, 1, 1000000000, 1000000001, -9223372036854775808] _ (T.out.src.next (ext1 _ _)) (by omega) (rd_lit _ _ _ _ rfl) (fun b o e => by injection e with e; injection e; omega) (by simp) (by simp)).mono ?_
    rintro e w4 ⟨z, hz, rfl, S4, K4⟩
    have T := Lib.hid (T.out.kept S4 ((Keep.of (ext1 _ _) hgl).trans K4))
    clear hz S4 K4 m1 m2
    have y0 := (World.ownsRow.cellAt T.out.row m (by omega)).trans (by rw [List.getElem?_map, List.getElem?_eq_getElem hm])
    have y1 := World.ownsRow.frozenAt T.out.row m
    have HR := Lib.hid (SL.retb (M := N + 110) (T.out.setAt (j := m) (y := z)) (by rw [List.length_set]) (by omega) (by rw [List.length_set]; omega))
    clear T
    go_wp2
    go_ret
    exact HR.out
  by_cases e1 : k = 1
  · have hgl := T.out.src.lt
    have hm : 0 < xs.length := by omega
    have i1 : (0 : Int) < (xs.length : Int) := by omega
    go_wp2_with fail
    refine (srcAmong_any g B _ _ _ [-1000000001, -1000000000, 1000000000, 1000000001] _ (T.out.src.next (ext1 _ _)) (by omega) (rd_lit _ _ _ _ rfl) (fun b o e => by injection e with e; injection e; omega) (by simp) (by simp)).mono ?_
    rintro e w4 ⟨z, hz, rfl, S4, K4⟩
    have T := Lib.hid (T.out.kept S4 ((Keep.of (ext1 _ _) hgl).trans K4))
    clear hz S4 K4
    have y0 := (World.ownsRow.cellAt T.out.row 0 (by omega)).trans (by rw [List.getElem?_map, List.getElem?_eq_getElem hm])
    have y1 := World.ownsRow.frozenAt T.out.row 0
    have HR := Lib.hid (SL.retb (M := N + 110) (T.out.setAt (j := 0) (y := z)) (by rw [List.length_set]) (by omega) (by rw [List.length_set]; omega))
    clear T
    go_wp2
    go_ret
    exact HR.out
  by_cases e2 : k = 2
  · have HR : Hid (RetLb g B (N + 110) w (.returned (.slice (some ⟨w2.heap.size, 0, none⟩) 0 0)) (w2.alloc (.cells #[] 2))) := SL.retb (SL.lit T.out.src T.out.keep HG.out #[] [] rfl (by simp)) rfl (by omega) (by simp)
    clear T
    go_wp2
    go_ret
    exact HR.out
  by_cases e3 : k = 3
  · have T0 := Lib.hid (SL.lit T.out.src T.out.keep HG.out #[] [] rfl (by simp))
    clear T
    go_wp2_with fail
    generalize w2.alloc (.cells #[] 2) = W2 at *
    generalize w2.heap.size = h2 at *
    refine (srcPick_any g B _ 2 _ T0.out.src (by omega) (by omega)).mono ?_
    rintro e w3 ⟨m, m1, m2, rfl, S3, K3⟩
    have T := Lib.hid (T0.out.kept S3 K3)
    clear S3 K3 T0
    obtain ⟨m, rfl⟩ : ∃ j : Nat, m = (j : Int) := ⟨m.toNat, by omega⟩
    have hm3 : m ≤ 1 := by omega
    clear m1 m2 e0 e1 e2 e3
    go_wp2_with fail
    go_loopw [6, 5] (fun t v wr => ∃ (j : Nat) (ys : List Int) (A : Option Addr) (c : Nat), t = .int .i64 j ∧ j ≤ 61 ∧ ys.length + j ≤ 61 ∧ v = .slice A ys.length c ∧ Hid (SL g B (N + 110) w ys (.slice A ys.length c) wr)) (fun t _ _ => (intOf t).toNat)
    case atStart => exact ⟨60 + m, [], _, _, val_int (by omega), by omega, by simp; omega, rfl, T.out.more (by omega)⟩
    case round =>
      obtain ⟨j, ys, A, c, rfl, hj, hyj, rfl, HT⟩ := hrel
      clear T
      have T := HT
      clear HT
      by_cases h0 : 0 < j
      · have h0i : (0 : Int) < (j : Int) := by omega
        have T2 := Lib.hid (T.out.next (ext1 wr (.cells #[.int .i64 1] 2)))
        have hown := T2.out.row
        have hb4 : w.heap.size ≤ wr.heap.size + 1 := Nat.le_succ_of_le T.out.keep.2.1
        go_wp2_with (at_builtin; go_must (refine wpList_append_lies _ rfl _ _ 24 rfl w.heap.size 2 ti (.int .i64 0) 1 8 Tryz.underlying24 HI.out hz0 hz1 hz2 rfl (by decide) _ _ _ rfl hown ⟨wr.heap.size, 0, none⟩ 1 1 [.int .i64 1] rfl rfl (news_row1 _ _ _ rfl) ?c2 (by omega) ?c3 ?c4 ?c5 _ rfl ?_))
        case c2 => simp [Value.oneCell']
        case c3 => unfold maxLen; omega
        case c4 => omega
        case c5 => simp; exact hb4
        intro g7 cap7 w7 hown6 hgrow hat hlt
        have T := Lib.hid (SL.push (x := 1) T2.out hown6 hgrow)
        have HLQ : Hid ((ys ++ [1]).length = ys.length + 1) := by unfold Hid; rw [List.length_append]; rfl
        clear hown6 hgrow hat hlt hown hb4 T2
        go_wp2
        go_roundw
        case rel => exact ⟨j - 1, ys ++ [1], _, _, val_int (by omega), by omega, by rw [HLQ.out]; omega, by rw [HLQ.out], by rw [HLQ.out]; exact T.out⟩
        case measure => simp [intOf]; omega
      · have h0i : ¬ (0 : Int) < (j : Int) := by omega
        have HR := Lib.hid (SL.retb (M := N + 110) T.out rfl (by omega) (by omega))
        clear T
        go_wp2
        go_ret
        exact HR.out
  by_cases e4 : k = 4
  · go_wp2_with fail
    refine (srcPick_any g B _ 3 _ T.out.src (by omega) (by omega)).mono ?_
    rintro e w3 ⟨m, m1, m2, rfl, S3, K3⟩
    have T := Lib.hid (T.out.kept S3 K3)
    clear S3 K3
    have HR : Hid (RetLb g B (N + 110) w (.returned (.slice (some ⟨w3.heap.size, 0, none⟩) 3 3)) (w3.alloc (.cells #[.int .i64 3, .int .i64 (1000000000 - m), .int .i64 1] 2))) := SL.retb (SL.lit T.out.src T.out.keep HG.out #[.int .i64 3, .int .i64 (1000000000 - m), .int .i64 1] [3, 1000000000 - m, 1] rfl (by simp)) rfl (by omega) (by simp)
    clear T
    go_wp2
    go_ret
    exact HR.out
  · have HR := Lib.hid (SL.retb (M := N + 110) T.out rfl (by omega) (by omega))
    clear T
    go_wp2
    go_ret
    exact HR.out
theorem own_roomR {W : World} {base n m c : Nat} {A : Option Addr} {e : TypeId} {s : Nat} {xs : List Value} (h : W.ownsRow base e s (.slice A m c) n xs) : n ≤ c ∧ c ≤ maxLen := by
  rcases h.2 with ⟨h1, h0⟩ | ⟨g, cap, cur, h1, _, _, hc, hm, _⟩
  · injection h1 with _ _ h1
    subst h1
    exact ⟨by omega, by unfold maxLen; omega⟩
  · injection h1 with _ _ h1
    subst h1
    exact ⟨hc, hm⟩
/-- What a draw of terms and a base returns. -/
def RetSu (w : World) (e : Ending) (w' : World) : Prop := ∃ (xs : List Int) (A : Option Addr) (c : Nat) (base : Int), e = .returned (.tuple #[.slice A xs.length c, .int .i64 base]) ∧ RdC w' w'.heap.size A c xs ∧ xs.length ≤ 61 ∧ Below w.heap.size w w'
theorem drawSureDigits_any (A : Option Addr) (n c : Nat) (w : World) (h : Bytes w A n) :
    Calls Tryz.prog 14 #[.slice A n c] w (RetSu w) := by
  have H := Lib.hid h
  clear h
  go_enter Tryz.func14, Tryz.ntmps14
  go_wp2_with fail
  refine (l00From_bytes A n c _ H.out).mono ?_
  rintro e w1 ⟨rfl, S1, hb1⟩
  have HS1 := Lib.hid S1
  have HB1 := Lib.hid hb1
  clear S1 hb1
  go_wp2_with fail
  refine (l03Bent_any _ _ _ _ HS1.out (by omega)).mono ?_
  rintro e w2 ⟨xs, A1, c1, rfl, ho, hl, S2, K2⟩
  have HS2 := Lib.hid S2
  have HB2 := Lib.hid (HB1.out.trans K2.1)
  have hlt := HS1.out.lt
  have HO := Lib.hid ho
  clear ho S2 K2
  go_wp2_with fail
  refine (l16DrawBase_any _ _ _ _ HS2.out (by omega)).mono ?_
  rintro e w3 ⟨base, rfl, S3, K3⟩
  have HB3 := Lib.hid (HB2.out.trans K3.1)
  have ho3 := own_kept HO.out K3 hlt
  have HC := Lib.hid (own_roomR ho3)
  have HW := Lib.hid (own_rd ho3).2
  clear S3 K3 ho3 HB1 HB2 HS1 HS2 HO
  go_wp2
  go_ret2
  exact ⟨xs, A1, c1, base, rfl, ⟨HW.out.rd, HC.out⟩, hl, HB3.out⟩
end Go.Proofs.YtjgafjbccfjojaaGreat
namespace Go.Proofs.YtjgafjbccfjojaaGreat
open Go.RowKit Go.Sort
/-- The state: the result's box, the source of numbers behind it, a fraction's box. -/
structure SQ (N b : Nat) (p q : Int) (w W : World) : Prop where
  src : Src (w.heap.size + 1) (w.heap.size + 1) N W
  r : B2 w.heap.size 0 0 W
  bel : Below w.heap.size w W
  x : B2 b p q W
  hb : w.heap.size + 1 < b
section
variable {N M b : Nat} {p q : Int} {w W W' : World}
theorem SQ.kept (t : SQ N b p q w W) (hs : Src (w.heap.size + 1) (w.heap.size + 1) M W') (h : Keep (w.heap.size + 1) W W') : SQ M b p q w W' :=
  ⟨hs, t.r.keep h (by omega), t.bel.trans (h.1.mono (by omega)), t.x.keep h (by have := t.hb; omega), t.hb⟩
end
/-- What a draw returns: a fraction and two numbers. -/
def RetDq (w : World) (e : Ending) (w' : World) : Prop := ∃ a b p q : Int, e = .returned (.tuple #[fracV a b, .int .i64 p, .int .i64 q]) ∧ Below w.heap.size w w'
set_option maxHeartbeats 4000000 in
theorem drawDigitsOfFraction_any (A : Option Addr) (n c : Nat) (w : World) (h : Bytes w A n) :
    Calls Tryz.prog 11 #[.slice A n c] w (RetDq w) := by
  have H := Lib.hid h
  clear h
  go_enter Tryz.func11, Tryz.ntmps11
  go_wp2_with fail
  refine (l00From_bytes A n c _ (H.out.next (ext1 _ _))).mono ?_
  rintro e w1 ⟨rfl, S1, hb1⟩
  have R1 := Lib.hid ((B2.new w 0 0 34).next hb1)
  have B1 := Lib.hid (ext_trans (ext1 w (.cells #[.int .i64 0, .int .i64 0] 34)) hb1)
  simp only [World.size_alloc] at S1 ⊢
  have HS1 := Lib.hid S1
  clear S1 hb1
  go_wp2_with fail
  refine (l02Bent_any _ _ _ _ HS1.out (by omega)).mono ?_
  rintro e w2 ⟨p, q, rfl, S2, K2⟩
  have hlt1 := HS1.out.lt
  have h2z := S2.lt
  have T : Hid (SQ (0 + 14) w2.heap.size p q w (w2.alloc (.cells #[.int .i64 p, .int .i64 q] 34))) :=
    ⟨S2.next (ext1 _ _), (R1.out.keep K2 (by omega)).next (ext1 _ _), ext_trans (B1.out.trans (K2.1.mono (by omega))) (ext1 _ _), B2.new _ _ _ _, h2z⟩
  clear S2 K2 R1 B1 HS1 hlt1
  go_wp2_with fail
  generalize w2.alloc (.cells #[.int .i64 p, .int .i64 q] 34) = W2 at *
  generalize w2.heap.size = b at *
  refine (l16DrawBase_any _ _ _ _ T.out.src (by omega)).mono ?_
  rintro e w3 ⟨base, rfl, S3, K3⟩
  have T := Lib.hid (T.out.kept S3 K3)
  clear S3 K3
  go_wp2_with fail
  refine (srcOne_any _ _ _ 10 _ T.out.src (by omega) (by omega)).mono ?_
  rintro e w4 ⟨bb, rfl, S3, K3⟩
  have T := Lib.hid (T.out.kept S3 K3)
  clear S3 K3
  have hb4 : b < w4.heap.size := T.out.x.2.2.2
  have hz4 : w.heap.size < w4.heap.size := T.out.r.2.2.2
  have hne : ¬ b = w.heap.size := by have := T.out.hb; omega
  have hne' : ¬ w.heap.size = b := by have := T.out.hb; omega
  have u0 := T.out.x.1
  have u1 := T.out.x.2.1
  have HSC : Hid (∀ W : World, Keep (w.heap.size + 1) w4 W → W.cell? ⟨b, 0, none⟩ = some (.int .i64 p) ∧ W.cell? ⟨b, 1, none⟩ = some (.int .i64 q)) := fun W k => by
    have X := T.out.x.keep k (by have := T.out.hb; omega)
    exact ⟨X.1, X.2.1⟩
  have HST : Hid (∀ (W : World) (a0 a1 : Value), (W.cell? ⟨b, 0, none⟩ = some (.int .i64 p) ∧ W.cell? ⟨b, 1, none⟩ = some (.int .i64 q)) →
      (((W.setCell ⟨w.heap.size, 0, none⟩ a0).setCell ⟨w.heap.size, 1, none⟩ a1).cell? ⟨b, 0, none⟩ = some (.int .i64 p) ∧ ((W.setCell ⟨w.heap.size, 0, none⟩ a0).setCell ⟨w.heap.size, 1, none⟩ a1).cell? ⟨b, 1, none⟩ = some (.int .i64 q))) := fun W a0 a1 h => by
    have o : ∀ (V : World) (i j : Nat) (u : Value), (V.setCell ⟨w.heap.size, i, none⟩ u).cell? ⟨b, j, none⟩ = V.cell? ⟨b, j, none⟩ := fun V i j u => World.cell?_setCell_other _ _ _ _ (by intro e; injection e; omega)
    simp only [o]
    exact h
  have HKT : Hid (∀ (M : Nat) (W : World), Src (w.heap.size + 1) (w.heap.size + 1) M W → Keep (w.heap.size + 1) w4 W → SQ M b p q w W) := fun M W hs k => T.out.kept hs k
  have HS := Lib.hid T.out.src
  have h4z := T.out.src.lt
  have K0 : Keep (w.heap.size + 1) w4 w4.drew := (Keep.refl _ _).drew
  have KA : Keep (w.heap.size + 1) w4 (w4.alloc (.cells #[.int .i64 (-1), .int .i64 0, .int .i64 1000, .int .i64 1001] 2)).drew := (Keep.of (ext1 _ _) h4z).drew
  have HNE : Hid (∀ b o, some (⟨w4.heap.size, 0, none⟩ : Addr) = some ⟨b, o, none⟩ → b ≠ w.heap.size + 1) := fun b o e => by
    injection e with e
    injection e with e1 e2
    have e4 : w4.heap.size = b := e1
    omega
  have HAM : Hid (Calls Tryz.prog 34 #[.pointer (some ⟨w.heap.size + 1, 0, none⟩), .slice (some ⟨w4.heap.size, 0, none⟩) 4 4] ((w4.alloc (.cells #[.int .i64 (-1), .int .i64 0, .int .i64 1000, .int .i64 1001] 2)).drew) (fun e w' => ∃ x, x ∈ ([-1, 0, 1000, 1001] : List Int) ∧ e = .returned (.int .i64 x) ∧ Src (w.heap.size + 1) (w.heap.size + 1) (0 + 14 + 4 + 2 + 2) w' ∧ Keep (w.heap.size + 1) ((w4.alloc (.cells #[.int .i64 (-1), .int .i64 0, .int .i64 1000, .int .i64 1001] 2)).drew) w')) :=
    srcAmong_any (w.heap.size + 1) (w.heap.size + 1) _ (some ⟨w4.heap.size, 0, none⟩) 4 [-1, 0, 1000, 1001] _ ((HS.out.next (ext1 w4 _)).next (ext_drew (Below.refl _ _))) (by omega) (rd_litD w4 #[.int .i64 (-1), .int .i64 0, .int .i64 1000, .int .i64 1001] 2 _ rfl) HNE.out (by simp) (by simp)
  have HKA := Lib.hid KA
  have HK0 := Lib.hid K0
  clear T HNE K0 KA
  cases bb
  · go_wp2_with fail
    go_region_held3 (fun W => W.cell? ⟨b, 0, none⟩ = some (.int .i64 p) ∧ W.cell? ⟨b, 1, none⟩ = some (.int .i64 q))
      (first | with_reducible exact HSC.out _ HK0.out | with_reducible exact HSC.out _ K6 | with_reducible exact HST.out _ _ _ (HSC.out _ K6))
      (first | (go_at_call 35; (with_reducible refine (srcPick_any (w.heap.size + 1) (w.heap.size + 1) _ 40 _ (HS.out.next (ext_drew (Below.refl _ _))) (by omega) (by omega)).mono ?_); rintro e w6 ⟨z, q1, q2, rfl, S6, K6'⟩; have K6 := HK0.out.trans K6'; have T6 := Lib.hid (HKT.out _ _ S6 K6); have r60 := T6.out.r.1; have r61 := T6.out.r.2.1; have f60 := T6.out.r.2.2.1 0; have f61 := T6.out.r.2.2.1 1))
    all_goals
      obtain ⟨s0, s1⟩ := set_two r60 r61
      have HF := Lib.hid (ext_set (ext_set T6.out.bel (p := ⟨w.heap.size, 0, none⟩) (Nat.le_refl _) (.int .i64 p)) (p := ⟨w.heap.size, 1, none⟩) (Nat.le_refl _) (.int .i64 q))
      clear HSC HST HKT HAM HKA
      go_wp2
      refine bodyPost_ret (v := .tuple #[fracV p q, .int .i64 base, .int .i64 z]) ?_ rfl ⟨p, q, base, z, rfl, HF.out⟩
      simp [results, Tryz.results11, go_sem, s0, s1]
  · go_wp2_with fail
    go_region_held3 (fun W => W.cell? ⟨b, 0, none⟩ = some (.int .i64 p) ∧ W.cell? ⟨b, 1, none⟩ = some (.int .i64 q))
      (first | with_reducible exact HSC.out _ HK0.out | with_reducible exact HSC.out _ HKA.out | with_reducible exact HSC.out _ K6 | with_reducible exact HST.out _ _ _ (HSC.out _ K6))
      (first | (go_at_call 34; (with_reducible refine HAM.out.mono ?_); rintro e w6 ⟨z, hq, rfl, S6, K6'⟩; clear hq; have K6 := HKA.out.trans K6'; have T6 := Lib.hid (HKT.out _ _ S6 K6); have r60 := T6.out.r.1; have r61 := T6.out.r.2.1; have f60 := T6.out.r.2.2.1 0; have f61 := T6.out.r.2.2.1 1))
    all_goals
      obtain ⟨s0, s1⟩ := set_two r60 r61
      have HF := Lib.hid (ext_set (ext_set T6.out.bel (p := ⟨w.heap.size, 0, none⟩) (Nat.le_refl _) (.int .i64 p)) (p := ⟨w.heap.size, 1, none⟩) (Nat.le_refl _) (.int .i64 q))
      clear HSC HST HKT HAM HKA
      go_wp2
      refine bodyPost_ret (v := .tuple #[fracV p q, .int .i64 base, .int .i64 z]) ?_ rfl ⟨p, q, base, z, rfl, HF.out⟩
      simp [results, Tryz.results11, go_sem, s0, s1]
end Go.Proofs.YtjgafjbccfjojaaGreat
namespace Go.Proofs.YtjgafjbccfjojaaGreat
open Go.RowKit Go.Sort
/-- The digits of a source, on both sides. -/
theorem digits_law (so : So) (base count : Int) : ∃ (v : Int) (xs : List Int) (c : Int), xs.length ≤ 1000 ∧
    Hid (∀ (H P G : Option Addr) (ch cp cg : Nat) (W : World), RdSo W W.heap.size H P G so → Calls Tryz.prog 6 #[souV H so.hd.length ch P so.pd.length cp G so.gr.length cg, .int .i64 base, .int .i64 count] W (RetDo W v xs c)) ∧
    Hid (∀ (H P G : Option Addr) (ch cp cg : Nat) (W : World), RdSo W W.heap.size H P G so → Calls Tryz.prog 7 #[souV H so.hd.length ch P so.pd.length cp G so.gr.length cg, .int .i64 base, .int .i64 count] W (RetDo W v xs c)) ∧
    Hid (c = 0 → soB so = true ∧ v = floT (tmS so) ∧ (xs.length : Int) = count ∧ ∀ x ∈ xs, 0 ≤ x ∧ x < base) := by
  by_cases h0 : tdC so base count = 0
  · obtain ⟨hs, hb, hc⟩ := tdC_zero h0
    obtain ⟨b1, b2⟩ := inR_true.1 hb
    obtain ⟨c1, c2⟩ := inR_true.1 hc
    obtain ⟨n, rfl⟩ : ∃ n : Nat, count = (n : Int) := ⟨count.toNat, by omega⟩
    obtain ⟨R, hR⟩ := dgR_ex (T := tmS so) (base := base) (count := n) (tmS_zero hs) (fun k t ht hk => tmS_pos hs hk ht) (by omega)
    refine ⟨doV R, doX R, R.2.2, ?_, fun H P G ch cp cg W hr => iDigits_good so H P G ch cp cg base n R W hr h0 hR, fun H P G ch cp cg W hr => sDigits_good so H P G ch cp cg base n R W hr h0 hR, fun hz => ?_⟩
    · unfold doX
      rw [List.length_drop]
      rcases hR.fin (by simp) with ⟨_, h⟩ | ⟨h, _⟩
      · omega
      · rw [h]; simp
    · have hlen : R.1.length = n + 1 := by
        rcases hR.fin (by simp) with ⟨_, h⟩ | ⟨_, _, h⟩
        · exact h
        · exact absurd hz h
      obtain ⟨t0, ht0⟩ : ∃ t0, tmS so 0 = some t0 := by
        cases e : tmS so 0 with
        | none => exact absurd e (tmS_zero hs)
        | some t => exact ⟨t, rfl⟩
      have hfl := dg_floor (fun k t ht hk => tmS_pos hs hk ht) ht0 hR hz
      refine ⟨hs, ?_, ?_, ?_⟩
      · unfold doV
        cases hq : R.1 with
        | nil => rw [hq] at hlen; simp at hlen
        | cons q l =>
          rw [hq] at hfl
          simpa using hfl
      · unfold doX
        rw [List.length_drop, hlen]
        omega
      · obtain ⟨m, hm⟩ := id hR
        exact dg_range (tmS_zero hs) (fun k t ht hk => tmS_pos hs hk ht) b1 m _ 0 [] ⟨rfl, .inl ⟨rfl, rfl⟩, by omega⟩ (.inl rfl) (by simp) hm
  · exact ⟨0, [], tdC so base count, by simp, fun H P G ch cp cg W hr => iDigits_bad so H P G ch cp cg base count W hr h0, fun H P G ch cp cg W hr => sDigits_bad so H P G ch cp cg base count W hr h0, fun h => absurd h h0⟩
/-- How many terms digits need, on both sides. -/
theorem terms_law (so : So) (base count : Int) : ∃ v c : Int, Hid (∀ (H P G : Option Addr) (ch cp cg : Nat) (W : World), RdSo W W.heap.size H P G so → Calls Tryz.prog 9 #[souV H so.hd.length ch P so.pd.length cp G so.gr.length cg, .int .i64 base, .int .i64 count] W fun e w' => e = .returned (.tuple #[.int .i64 v, .int .i64 c]) ∧ Below W.heap.size W w') ∧
    Hid (∀ (H P G : Option Addr) (ch cp cg : Nat) (W : World), RdSo W W.heap.size H P G so → Calls Tryz.prog 10 #[souV H so.hd.length ch P so.pd.length cp G so.gr.length cg, .int .i64 base, .int .i64 count] W fun e w' => e = .returned (.tuple #[.int .i64 v, .int .i64 c]) ∧ Below W.heap.size W w') := terms_both so base count
/-- The digits of a fraction, on both sides. -/
theorem fdigits_law (a b base count : Int) : ∃ (v : Int) (xs : List Int) (c : Int), xs.length ≤ 1000 ∧ Hid (∀ W, Calls Tryz.prog 12 #[fracV a b, .int .i64 base, .int .i64 count] W (RetDf W v xs c)) ∧ Hid (∀ W, Calls Tryz.prog 13 #[fracV a b, .int .i64 base, .int .i64 count] W (RetDf W v xs c)) := by
  refine ⟨_, _, _, ?_, fun W => iDigitsOfFraction_any a b base count W, fun W => sDigitsOfFraction_any a b base count W⟩
  split
  · rename_i h
    obtain ⟨_, _, _, h2⟩ := dfC_zero h
    rw [dgF_len]
    omega
  · simp
/-- Sure digits: both sides, and what all numbers between the bounds have in common. -/
theorem sure_law (ts : List Int) (base : Int) (hm : ts.length ≤ 61) : ∃ n c : Int, Hid (∀ (A : Option Addr) (k : Nat) (W : World), RdC W W.heap.size A k ts → Calls Tryz.prog 15 #[.slice A ts.length k, .int .i64 base] W fun e w' => e = .returned (.tuple #[.int .i64 n, .int .i64 c]) ∧ Below W.heap.size W w') ∧
    Hid (∀ (A : Option Addr) (k : Nat) (W : World), RdC W W.heap.size A k ts → Calls Tryz.prog 16 #[.slice A ts.length k, .int .i64 base] W fun e w' => e = .returned (.tuple #[.int .i64 n, .int .i64 c]) ∧ Below W.heap.size W w') ∧
    Hid (c = 0 → 0 < n → ∃ (p q a b p' q' u : Int) (ds : List Int), ds.length ≤ 1000 ∧
      Hid (∀ (A : Option Addr) (k : Nat) (W : World), RdC W W.heap.size A k ts → Calls Tryz.prog 18 #[.slice A ts.length k] W fun e w' => e = .returned (.tuple #[fracV p q, .int .i64 0]) ∧ Below W.heap.size W w') ∧
      Hid (∀ (A : Option Addr) (k : Nat) (W : World), RdC W W.heap.size A k ts → Calls Tryz.prog 19 #[.slice A ts.length k] W fun e w' => e = .returned (.tuple #[fracV a b, fracV p' q', .int .i64 0]) ∧ Below W.heap.size W w') ∧
      Hid (∀ W, Calls Tryz.prog 12 #[fracV a b, .int .i64 base, .int .i64 n] W (RetDf W u ds 0)) ∧
      Hid (∀ W, Calls Tryz.prog 12 #[fracV p' q', .int .i64 base, .int .i64 n] W (RetDf W u ds 0)) ∧
      Hid (∀ W, Calls Tryz.prog 12 #[fracV p q, .int .i64 base, .int .i64 n] W (RetDf W u ds 0))) := by
  refine ⟨(sureR ts base).1, (sureR ts base).2, fun A k W h => iSureDigits_any A k ts base W h (by omega), fun A k W h => sSureDigits_any A k ts base W h.1 (by omega), fun h1 h2 => ?_⟩
  have ht : termsB ts = true := by
    cases e : termsB ts
    · unfold sureR at h1
      rw [e] at h1
      cases h1
    · rfl
  have hb : inR base 2 36 = true := by
    cases e : inR base 2 36
    · unfold sureR at h1
      rw [ht, e] at h1
      cases h1
    · rfl
  obtain ⟨⟨l1, l2⟩, _⟩ := termsB_at ht
  cases hd : bdS ts with
  | none => rw [sureR_none ht hb hd] at h1; cases h1
  | some ab =>
    obtain ⟨⟨p1, q1⟩, p2, q2⟩ := ab
    rw [sureR_some ht hb hd] at h2 ⊢
    obtain ⟨k1, k2, one, hone, hlast⟩ := bdS_ok hd l1
    dsimp only at k1 k2 h2 ⊢
    by_cases huv : p1 / q1 = p2 / q2
    · rw [if_pos huv] at h2 ⊢
      dsimp only at h2 ⊢
      obtain ⟨m, hm2⟩ : ∃ m, cmT (dgF base q1 (p1 % q1) 60) (dgF base q2 (p2 % q2) 60) = m := ⟨_, rfl⟩
      have hle := (cmT_le (dgF base q1 (p1 % q1) 60) (dgF base q2 (p2 % q2) 60)).1
      have htk := cmT_take (dgF base q1 (p1 % q1) 60) (dgF base q2 (p2 % q2) 60)
      rw [dgF_len] at hle
      rw [hm2] at hle htk h2 ⊢
      rw [dgF_take _ _ _ _ _ hle, dgF_take _ _ _ _ _ hle] at htk
      obtain ⟨b1, b2⟩ := inR_true.1 hb
      have hC : ∀ a b : Int, fracOk a b = true → dfC a b base (m : Int) = 0 := fun a b h => by
        unfold dfC
        rw [if_pos h, hb, inR_true.2 ⟨by omega, by omega⟩]
        rfl
      have H1 : ∀ W, Calls Tryz.prog 12 #[fracV p1 q1, .int .i64 base, .int .i64 (m : Int)] W (RetDf W (p1 / q1) (dgF base q1 (p1 % q1) m) 0) := fun W => by
        have h := iDigitsOfFraction_any p1 q1 base m W
        rw [hC _ _ k1, if_pos rfl, if_pos rfl] at h
        exact h
      have H2 : ∀ W, Calls Tryz.prog 12 #[fracV p2 q2, .int .i64 base, .int .i64 (m : Int)] W (RetDf W (p1 / q1) (dgF base q1 (p1 % q1) m) 0) := fun W => by
        have h := iDigitsOfFraction_any p2 q2 base m W
        rw [hC _ _ k2, if_pos rfl, if_pos rfl] at h
        rw [huv, htk]
        exact h
      have hcv : cvC ts = 0 := by unfold cvC; rw [if_pos ht, hone]; rfl
      have hvl : vlF ts = lastF one := by
        unfold vlF cvL
        rw [if_pos hcv, if_pos ht, hone]; rfl
      have HV : ∀ (A : Option Addr) (k : Nat) (W : World), RdC W W.heap.size A k ts → Calls Tryz.prog 18 #[.slice A ts.length k] W fun e w' => e = .returned (.tuple #[fracV (lastF one).1 (lastF one).2, .int .i64 0]) ∧ Below W.heap.size W w' := fun A k W h => by
        have h := ValueOfTerms_any A k ts W h (by omega)
        rw [hcv, hvl] at h
        exact h
      have HB : ∀ (A : Option Addr) (k : Nat) (W : World), RdC W W.heap.size A k ts → Calls Tryz.prog 19 #[.slice A ts.length k] W fun e w' => e = .returned (.tuple #[fracV p1 q1, fracV p2 q2, .int .i64 0]) ∧ Below W.heap.size W w' := fun A k W h => BoundsOfTerms_ok A k ts p1 q1 p2 q2 W h (by omega) ht hd
      refine ⟨(lastF one).1, (lastF one).2, p1, q1, p2, q2, p1 / q1, dgF base q1 (p1 % q1) m, by rw [dgF_len]; omega, HV, HB, H1, H2, ?_⟩
      rcases hlast with h | h
      · rw [h]; exact H1
      · rw [h]; exact H2
    · rw [if_neg huv] at h2
      exact absurd h2 (by simp)
end Go.Proofs.YtjgafjbccfjojaaGreat
namespace Go.Proofs.YtjgafjbccfjojaaGreat
open Go.RowKit Go.Sort
theorem f6big_any (A : Option Addr) (n c : Nat) (w : World) :
    Calls Tryz.prog 4 #[.slice A n c] w fun e w' => e = .returned (.bool (decide (4096 < (n : Int)))) ∧ w = w' := by
  go_enter Tryz.func4, Tryz.ntmps4
  go_wp2
  go_ret
  exact ⟨rfl, rfl⟩
end Go.Proofs.YtjgafjbccfjojaaGreat
