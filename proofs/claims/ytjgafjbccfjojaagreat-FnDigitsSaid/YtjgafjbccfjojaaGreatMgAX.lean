/- The sources of terms that the statements draw, some of them bent: the walk. No condition but those that each theorem names. -/
import Derived.Test.YtjgafjbccfjojaaGreatMgAW
namespace Go.Proofs.YtjgafjbccfjojaaGreat
open Go.RowKit Go.Sort
theorem SX.boxed {g B N : Nat} {s : So} {v1 v2 v3 : Value} {w W : World} (hs : Src g B N W) (hk : Keep g w W) (hr : BoxV w.heap.size [.slice none 0 0, .slice none 0 0, .slice none 0 0] W) (hg : g < w.heap.size) (o : Own3 W (w.heap.size + 1) v1 v2 v3 s) (T : TypeId) :
    SX g B N W.heap.size s v1 v2 v3 w (W.alloc (.cells #[v1, v2, v3] T)) :=
  ⟨hs.next (ext1 _ _), hk.trans (Keep.of (ext1 _ _) hs.lt), hr.next (ext1 _ _), BoxV.new W #[v1, v2, v3] T, o.next (ext1 _ _), fun e => by have := (o.o1.lt _ e).2; omega, fun e => by have := (o.o2.lt _ e).2; omega, fun e => by have := (o.o3.lt _ e).2; omega, hr.lt, hg⟩
theorem rd_litD (W : World) (C : Array Value) (T : TypeId) (xs : List Int) (h : C.toList = xs.map (Value.int .i64)) : Rd (Value.int .i64) (W.alloc (.cells C T)).drew (W.alloc (.cells C T)).drew.heap.size (some ⟨W.heap.size, 0, none⟩) xs := rd_lit W C T xs h
/-- An element of the first row is set. -/
theorem SX.setHd {g B N b g6 c j : Nat} {hd pd gr : List Int} {v2 v3 : Value} {w W : World} {y : Int} (t : SX g B N b ⟨hd, pd, gr⟩ (.slice (some ⟨g6, 0, none⟩) hd.length c) v2 v3 w W) :
    SX g B N b ⟨hd.set j y, pd, gr⟩ (.slice (some ⟨g6, 0, none⟩) hd.length c) v2 v3 w (W.setCell ⟨g6, j, none⟩ (.int .i64 y)) := by
  have hg6 := t.o.o1.lt g6 rfl
  have hg := t.hg
  have o1 : W.ownsRow (w.heap.size + 1) 2 1 (.slice (some ⟨g6, 0, none⟩) hd.length c) hd.length (hd.map (Value.int .i64)) := t.o.o1
  have k1 := (World.ownsRow.stored o1 j (.int .i64 y)).1
  have n12 := t.o.n12 g6 rfl
  have n13 := t.o.n13 g6 rfl
  have hb : ¬ g6 = b := fun e => t.f1 (by rw [← e]; rfl)
  refine ⟨t.src.setOther (by omega) _ _, t.keep.setOther hg (by omega) _ _, t.r.setFar _ (by omega), t.x.setFar _ hb, ⟨?_, own_off t.o.o2 n12, own_off t.o.o3 n13, t.o.n12, t.o.n13, t.o.n23⟩, t.f1, t.f2, t.f3, t.hb, hg⟩
  unfold OwnR
  rw [List.length_set, List.map_set]
  exact k1
/-- The first row is laid anew, empty. -/
theorem SX.noHd {g B N b : Nat} {s : So} {v1 v2 v3 : Value} {w W : World} (t : SX g B N b s v1 v2 v3 w W) :
    SX g B N b ⟨[], s.pd, s.gr⟩ (.slice (some ⟨W.heap.size, 0, none⟩) 0 0) v2 v3 w ((W.alloc (.cells #[] 2)).setCell ⟨b, 0, none⟩ (.slice (some ⟨W.heap.size, 0, none⟩) 0 0)) := by
  have t2 := t.next (ext1 W (.cells #[] 2))
  have hbl := t.x.lt
  have hne : (Value.slice (some ⟨W.heap.size, 0, none⟩) 0 0).ownBlock ≠ some b := fun e => by
    have e2 : W.heap.size = b := by injection e
    omega
  have o := lit_own W (w.heap.size + 1) #[] [] rfl t.r.lt (by simp)
  refine ⟨t2.src.setOther (Nat.lt_trans t.hg t.hb) _ _, t2.keep.setOther t.hg (Nat.le_of_lt t.hb) _ _, t2.r.setFar _ (by have := t.hb; omega), t2.x.set 0 _ (by simp), ⟨own_off o hne, own_off t2.o.o2 t.f2, own_off t2.o.o3 t.f3, fun k h h' => ?_, fun k h h' => ?_, t.o.n23⟩, hne, t.f2, t.f3, t.hb, t.hg⟩
  · have e2 : W.heap.size = k := by injection h
    have := (t.o.o2.lt k h').2
    omega
  · have e2 : W.heap.size = k := by injection h
    have := (t.o.o3.lt k h').2
    omega
/-- What a draw of a source returns that may be bent. -/
def RetSb (g B N : Nat) (w : World) (e : Ending) (w' : World) : Prop := ∃ (s : So) (v1 v2 v3 : Value), e = .returned (.agg #[v1, v2, v3]) ∧ Own3 w' (w.heap.size + 1) v1 v2 v3 s ∧ (s.hd.length ≤ 31 ∧ s.pd.length ≤ 31 ∧ s.gr.length ≤ 31) ∧ Src g B N w' ∧ Keep g w w'
set_option maxRecDepth 100000 in
set_option maxHeartbeats 8000000 in
theorem l15Bent_any (g B N : Nat) (w : World) (h : Src g B N w) (hN : N ≤ 500000) :
    Calls Tryz.prog 53 #[.pointer (some ⟨g, 0, none⟩)] w (RetSb g B (N + 200) w) := by
  obtain ⟨ti, hi, hz0, hz1, hz2⟩ := info_parts info64
  have HI := Lib.hid hi
  have HG := Lib.hid h.lt
  have S := Lib.hid (h.next (ext1 w (.cells #[.slice none 0 0, .slice none 0 0, .slice none 0 0] 26)))
  have K := Lib.hid (Keep.of (ext1 w (.cells #[.slice none 0 0, .slice none 0 0, .slice none 0 0] 26)) h.lt)
  have R1 := Lib.hid (BoxV.new w #[.slice none 0 0, .slice none 0 0, .slice none 0 0] 26)
  clear h hi
  go_enter Tryz.func53, Tryz.ntmps53
  go_wp2_with fail
  have HW0 : Hid (w.heap.size + 1 ≤ (w.alloc (.cells #[.slice none 0 0, .slice none 0 0, .slice none 0 0] 26)).heap.size + 1) := by unfold Hid; simp
  generalize w.alloc (.cells #[.slice none 0 0, .slice none 0 0, .slice none 0 0] 26) = W0 at *
  refine (l15Draw_any g B N _ S.out (by omega)).mono ?_
  rintro e w1 ⟨⟨hd, pd, gr⟩, v1, v2, v3, rfl, ho, ⟨hl1, hl2, hl3⟩, S1, K1⟩
  have R1 := Lib.hid (BoxV.keepK R1.out K1 (by have := HG.out; omega))
  have K := Lib.hid (K.out.trans K1)
  have O := Lib.hid (ho.more HW0.out)
  have HS1 := Lib.hid S1
  obtain ⟨A1, c1, rfl⟩ : ∃ A c, v1 = .slice A hd.length c := own_slice O.out.o1
  obtain ⟨A2, c2, rfl⟩ : ∃ A c, v2 = .slice A pd.length c := own_slice O.out.o2
  obtain ⟨A3, c3, rfl⟩ : ∃ A c, v3 = .slice A gr.length c := own_slice O.out.o3
  have T := Lib.hid (SX.boxed HS1.out K.out R1.out HG.out O.out 26)
  clear S K R1 O ho S1 HW0 K1
  dsimp only at hl1 hl2 hl3
  go_wp2_with fail
  generalize w1.alloc (.cells #[.slice A1 hd.length c1, .slice A2 pd.length c2, .slice A3 gr.length c3] 26) = W1 at *
  generalize w1.heap.size = b at *
  refine (srcPick_any g B _ 24 _ T.out.src (by omega) (by omega)).mono ?_
  rintro e w2 ⟨k, k1, k2, rfl, S1, K1⟩
  have T := Lib.hid (T.out.kept S1 K1)
  clear S1 K1 HS1
  by_cases e0 : k = 0
  · by_cases hl0 : 0 < hd.length
    · have hl0i : (0 : Int) < (hd.length : Int) := by omega
      have T0 := T
      clear T
      obtain ⟨g6, hg6⟩ : ∃ g6, A1 = some ⟨g6, 0, none⟩ := by
        rcases T0.out.o.o1.2 with ⟨hn, hn2⟩ | ⟨g', cap, cur, hv, _⟩
        · exact absurd hn2 (by show ¬ hd.length = 0; omega)
        · injection hv with hv
          exact ⟨g', hv⟩
      subst hg6
      have u0 := T0.out.x.at 0 _ rfl
      have hgl : g < w2.heap.size := T0.out.src.lt
      have hbl2 : b < w2.heap.size := T0.out.x.lt
      have HA : Hid (∀ b' o', (some ⟨w2.heap.size, 0, none⟩ : Option Addr) = some ⟨b', o', none⟩ → b' ≠ g) := fun b' o' e => by
        injection e with e
        injection e with e1
        omega
      go_wp2_with fail
      have HAM : Hid (Calls Tryz.prog 34 #[.pointer (some ⟨g, 0, none⟩), .slice (some ⟨w2.heap.size, 0, none⟩) 4 4] (w2.alloc (.cells #[.int .i64 (-1000000001), .int .i64 (-1000000000), .int .i64 1000000000, .int .i64 1000000001] 2)).drew (fun e w' => ∃ x, x ∈ [-1000000001, -1000000000, 1000000000, 1000000001] ∧ e = .returned (.int .i64 x) ∧ Src g B (N + 100 + 2 + 2) w' ∧ Keep g (w2.alloc (.cells #[.int .i64 (-1000000001), .int .i64 (-1000000000), .int .i64 1000000000, .int .i64 1000000001] 2)).drew w')) := srcAmong_any g B _ _ _ [-1000000001, -1000000000, 1000000000, 1000000001] _ (T0.out.src.next (ext_drew (ext1 w2 (.cells #[.int .i64 (-1000000001), .int .i64 (-1000000000), .int .i64 1000000000, .int .i64 1000000001] 2)))) (by omega) (rd_litD w2 #[.int .i64 (-1000000001), .int .i64 (-1000000000), .int .i64 1000000000, .int .i64 1000000001] 2 [-1000000001, -1000000000, 1000000000, 1000000001] rfl) HA.out (by simp) (by simp)
      first | go_region_law (first
        | (go_simp; go_at_call 34; ((with_reducible refine HAM.out.mono ?_); rintro e w6 ⟨z, hz, rfl, S3, K3'⟩; clear hz; have K3 : Keep g w2 w6 := (Keep.of (ext_drew (ext1 w2 (.cells #[.int .i64 (-1000000001), .int .i64 (-1000000000), .int .i64 1000000000, .int .i64 1000000001] 2))) hgl).trans K3'; have T3 := Lib.hid (T0.out.kept S3 K3); have m0 := T3.out.x.at 0 _ rfl; have O6 : w6.ownsRow (w.heap.size + 1) 2 1 (.slice (some ⟨g6, 0, none⟩) hd.length c1) hd.length (hd.map (Value.int .i64)) := T3.out.o.o1; have y0 := (World.ownsRow.cellAt O6 0 (by omega)).trans (by rw [List.getElem?_map, List.getElem?_eq_getElem hl0]); have y1 := World.ownsRow.frozenAt O6 0))
        | fail) | fail
      all_goals
        have T := Lib.hid (SX.setHd (j := 0) (y := z) T3.out)
        have HLN : Hid ((hd.set 0 z).length ≤ 31 ∧ pd.length ≤ 31 ∧ gr.length ≤ 31) := by unfold Hid; rw [List.length_set]; omega
        clear T3 K3 S3 T0 u0 m0 O6 y0 y1
        generalize w6.setCell ⟨g6, 0, none⟩ (.int .i64 z) = W5 at *
        have HE := Lib.hid (T.out.fin (M := N + 200) (by omega))
        have R1 := Lib.hid T.out.r
        have r0 := R1.out.at 0 _ rfl
        have r1 := R1.out.at 1 _ rfl
        have r2 := R1.out.at 2 _ rfl
        have f0 := R1.out.f 0
        have f1 := R1.out.f 1
        have f2 := R1.out.f 2
        obtain ⟨s0, s1, s2⟩ := set_three r0 r1 r2
        have x0 := T.out.x.at 0 _ rfl
        have x1 := T.out.x.at 1 _ rfl
        have x2 := T.out.x.at 2 _ rfl
        clear T R1
        go_wp2
        refine bodyPost_ret (v := .agg #[.slice (some ⟨g6, 0, none⟩) hd.length c1, .slice A2 pd.length c2, .slice A3 gr.length c3]) ?_ rfl ⟨_, _, _, _, rfl, (HE.out _ _ _).1, HLN.out, (HE.out _ _ _).2.1, (HE.out _ _ _).2.2⟩
        simp [results, Tryz.results53, go_sem, s0, s1, s2]
    · have hl0i : ¬ (0 : Int) < (hd.length : Int) := by omega
      have HLN : Hid (hd.length ≤ 31 ∧ pd.length ≤ 31 ∧ gr.length ≤ 31) := by unfold Hid; omega
      have HE := Lib.hid (T.out.fin (M := N + 200) (by omega))
      have R1 := Lib.hid T.out.r
      have r0 := R1.out.at 0 _ rfl
      have r1 := R1.out.at 1 _ rfl
      have r2 := R1.out.at 2 _ rfl
      have f0 := R1.out.f 0
      have f1 := R1.out.f 1
      have f2 := R1.out.f 2
      obtain ⟨s0, s1, s2⟩ := set_three r0 r1 r2
      have x0 := T.out.x.at 0 _ rfl
      have x1 := T.out.x.at 1 _ rfl
      have x2 := T.out.x.at 2 _ rfl
      clear T R1
      go_wp2
      refine bodyPost_ret (v := .agg #[.slice A1 hd.length c1, .slice A2 pd.length c2, .slice A3 gr.length c3]) ?_ rfl ⟨_, _, _, _, rfl, (HE.out _ _ _).1, HLN.out, (HE.out _ _ _).2.1, (HE.out _ _ _).2.2⟩
      simp [results, Tryz.results53, go_sem, s0, s1, s2]
  by_cases e1 : k = 1
  · have T0 := T
    clear T
    have u0 := T0.out.x.at 0 _ rfl
    have v0 := T0.out.x.f 0
    have hgl : g < w2.heap.size := T0.out.src.lt
    have hbl2 : b < w2.heap.size := T0.out.x.lt
    have HA : Hid (∀ b' o', (some ⟨w2.heap.size, 0, none⟩ : Option Addr) = some ⟨b', o', none⟩ → b' ≠ g) := fun b' o' e => by
      injection e with e
      injection e with e1
      omega
    go_wp2_with fail
    have HAM : Hid (Calls Tryz.prog 34 #[.pointer (some ⟨g, 0, none⟩), .slice (some ⟨w2.heap.size, 0, none⟩) 4 4] (w2.alloc (.cells #[.int .i64 (-1), .int .i64 0, .int .i64 1000000000, .int .i64 1000000001] 2)).drew (fun e w' => ∃ x, x ∈ [-1, 0, 1000000000, 1000000001] ∧ e = .returned (.int .i64 x) ∧ Src g B (N + 100 + 2 + 2) w' ∧ Keep g (w2.alloc (.cells #[.int .i64 (-1), .int .i64 0, .int .i64 1000000000, .int .i64 1000000001] 2)).drew w')) := srcAmong_any g B _ _ _ [-1, 0, 1000000000, 1000000001] _ (T0.out.src.next (ext_drew (ext1 w2 (.cells #[.int .i64 (-1), .int .i64 0, .int .i64 1000000000, .int .i64 1000000001] 2)))) (by omega) (rd_litD w2 #[.int .i64 (-1), .int .i64 0, .int .i64 1000000000, .int .i64 1000000001] 2 [-1, 0, 1000000000, 1000000001] rfl) HA.out (by simp) (by simp)
    first | go_region_law (first
      | (go_simp; go_at_call 34; ((with_reducible refine HAM.out.mono ?_); rintro e w6 ⟨z, hz, rfl, S3, K3'⟩; clear hz; have K3 : Keep g w2 w6 := (Keep.of (ext_drew (ext1 w2 (.cells #[.int .i64 (-1), .int .i64 0, .int .i64 1000000000, .int .i64 1000000001] 2))) hgl).trans K3'; have T3 := Lib.hid (T0.out.kept S3 K3); have hb3 : w.heap.size + 1 ≤ w6.heap.size + 1 := Nat.succ_le_succ T3.out.keep.2.1; have O6 : (w6.alloc (.cells #[.int .i64 z] 2)).ownsRow (w.heap.size + 1) 2 1 (.slice A1 hd.length c1) hd.length (hd.map (Value.int .i64)) := (T3.out.next (ext1 w6 (.cells #[.int .i64 z] 2))).o.o1; have hb4 : b < w6.heap.size := T3.out.x.lt; have m0 := T3.out.x.at 0 _ rfl; have q0 := T3.out.x.f 0))
      | (refine step_append_lies _ (by rfl) _ _ _ (by rfl) (w.heap.size + 1) 2 ti (.int .i64 0) 1 8 Tryz.underlying24 HI.out hz0 hz1 hz2 rfl (by decide) _ _ _ (by rfl) O6 ⟨w6.heap.size, 0, none⟩ 1 1 [.int .i64 z] (by rfl) (by rfl) (news_row1 _ _ _ rfl) (by simp [Value.oneCell']) (by omega) (by unfold maxLen; omega) (by omega) (by simp only [World.size_alloc]; exact hb3) _ rfl ?_; intro g6 cap6 w7 hown6 hgrow hat hlt; have B6 := (T3.out.next (ext1 w6 (.cells #[.int .i64 z] 2))).x.grown hgrow T3.out.f1; have z0 := B6.at 0 _ rfl; have G0 := B6.f 0)
      | fail) | fail
    all_goals
      have T := Lib.hid (SX.push1 (y := z) (T3.out.next (ext1 w6 (.cells #[.int .i64 z] 2))) hown6 hgrow hat)
      have HLN : Hid ((hd ++ [z]).length ≤ 31 ∧ pd.length ≤ 31 ∧ gr.length ≤ 31) := by unfold Hid; simp; omega
      clear hb4 hown6 hgrow hat hlt B6 z0 G0 m0 q0 T3 K3 S3 O6 hb3 T0 u0 v0
      dsimp only at T
      generalize w7.setCell ⟨b, 0, none⟩ (.slice (some ⟨g6, 0, none⟩) (hd.length + 1) cap6) = W5 at *
      have HE := Lib.hid (T.out.fin (M := N + 200) (by omega))
      have R1 := Lib.hid T.out.r
      have r0 := R1.out.at 0 _ rfl
      have r1 := R1.out.at 1 _ rfl
      have r2 := R1.out.at 2 _ rfl
      have f0 := R1.out.f 0
      have f1 := R1.out.f 1
      have f2 := R1.out.f 2
      obtain ⟨s0, s1, s2⟩ := set_three r0 r1 r2
      have x0 := T.out.x.at 0 _ rfl
      have x1 := T.out.x.at 1 _ rfl
      have x2 := T.out.x.at 2 _ rfl
      clear T R1
      go_wp2
      refine bodyPost_ret (v := .agg #[.slice (some ⟨g6, 0, none⟩) (hd.length + 1) cap6, .slice A2 pd.length c2, .slice A3 gr.length c3]) ?_ rfl ⟨_, _, _, _, rfl, (HE.out _ _ _).1, HLN.out, (HE.out _ _ _).2.1, (HE.out _ _ _).2.2⟩
      simp [results, Tryz.results53, go_sem, s0, s1, s2]
  by_cases e2 : k = 2
  · have T0 := T
    clear T
    go_upto_region 9 with fail
    go_cut [8] (fun v wx => v = .int .i64 2 ∧ ∃ (zz : Int) (B2 : Option Addr) (d2 : Nat), Hid (SX g B (N + 106) b ⟨hd, pd ++ [zz], gr⟩ (.slice A1 hd.length c1) (.slice B2 (pd.length + 1) d2) (.slice A3 gr.length c3) w wx))
    case first =>
     have u1 := T0.out.x.at 1 _ rfl
     have v1 := T0.out.x.f 1
     have hgl : g < w2.heap.size := T0.out.src.lt
     have hbl2 : b < w2.heap.size := T0.out.x.lt
     have HA : Hid (∀ b' o', (some ⟨w2.heap.size, 0, none⟩ : Option Addr) = some ⟨b', o', none⟩ → b' ≠ g) := fun b' o' e => by
       injection e with e
       injection e with e1
       omega
     have HAM : Hid (Calls Tryz.prog 34 #[.pointer (some ⟨g, 0, none⟩), .slice (some ⟨w2.heap.size, 0, none⟩) 4 4] (w2.alloc (.cells #[.int .i64 0, .int .i64 1, .int .i64 1000000, .int .i64 1000001] 2)).drew (fun e w' => ∃ x, x ∈ [0, 1, 1000000, 1000001] ∧ e = .returned (.int .i64 x) ∧ Src g B (N + 100 + 2 + 2) w' ∧ Keep g (w2.alloc (.cells #[.int .i64 0, .int .i64 1, .int .i64 1000000, .int .i64 1000001] 2)).drew w')) := srcAmong_any g B _ _ _ [0, 1, 1000000, 1000001] _ (T0.out.src.next (ext_drew (ext1 w2 (.cells #[.int .i64 0, .int .i64 1, .int .i64 1000000, .int .i64 1000001] 2)))) (by omega) (rd_litD w2 #[.int .i64 0, .int .i64 1, .int .i64 1000000, .int .i64 1000001] 2 [0, 1, 1000000, 1000001] rfl) HA.out (by simp) (by simp)
     first | go_region_law (first
       | (go_simp; go_at_call 34; ((with_reducible refine HAM.out.mono ?_); rintro e w6 ⟨z, hz, rfl, S3, K3'⟩; clear hz; have K3 : Keep g w2 w6 := (Keep.of (ext_drew (ext1 w2 (.cells #[.int .i64 0, .int .i64 1, .int .i64 1000000, .int .i64 1000001] 2))) hgl).trans K3'; have T3 := Lib.hid (T0.out.kept S3 K3); have hb3 : w.heap.size + 1 ≤ w6.heap.size + 1 := Nat.succ_le_succ T3.out.keep.2.1; have O6 : (w6.alloc (.cells #[.int .i64 z] 2)).ownsRow (w.heap.size + 1) 2 1 (.slice A2 pd.length c2) pd.length (pd.map (Value.int .i64)) := (T3.out.next (ext1 w6 (.cells #[.int .i64 z] 2))).o.o2; have hb4 : b < w6.heap.size := T3.out.x.lt; have m0 := T3.out.x.at 1 _ rfl; have q0 := T3.out.x.f 1))
       | (refine step_append_lies _ (by rfl) _ _ _ (by rfl) (w.heap.size + 1) 2 ti (.int .i64 0) 1 8 Tryz.underlying24 HI.out hz0 hz1 hz2 rfl (by decide) _ _ _ (by rfl) O6 ⟨w6.heap.size, 0, none⟩ 1 1 [.int .i64 z] (by rfl) (by rfl) (news_row1 _ _ _ rfl) (by simp [Value.oneCell']) (by omega) (by unfold maxLen; omega) (by omega) (by simp only [World.size_alloc]; exact hb3) _ rfl ?_; intro g6 cap6 w7 hown6 hgrow hat hlt; have B6 := (T3.out.next (ext1 w6 (.cells #[.int .i64 z] 2))).x.grown hgrow T3.out.f2; have z0 := B6.at 1 _ rfl; have G0 := B6.f 1)
       | fail) | fail
     all_goals
      have T := Lib.hid (SX.push2 (y := z) (T3.out.next (ext1 w6 (.cells #[.int .i64 z] 2))) hown6 hgrow hat)
      go_wp2_with fail
      go_meet
      exact ⟨rfl, z, _, _, T.out.more (by omega)⟩
    case rest =>
      obtain ⟨rfl, zz, B2, d2, HT⟩ := hcut
      clear T0
      have T0 := HT
      clear HT
      have u2 := T0.out.x.at 2 _ rfl
      have v2 := T0.out.x.f 2
      have hgl : g < wc.heap.size := T0.out.src.lt
      have hbl2 : b < wc.heap.size := T0.out.x.lt
      have HA : Hid (∀ b' o', (some ⟨wc.heap.size, 0, none⟩ : Option Addr) = some ⟨b', o', none⟩ → b' ≠ g) := fun b' o' e => by
        injection e with e
        injection e with e1
        omega
      go_wp2_with fail
      have HAM : Hid (Calls Tryz.prog 34 #[.pointer (some ⟨g, 0, none⟩), .slice (some ⟨wc.heap.size, 0, none⟩) 4 4] (wc.alloc (.cells #[.int .i64 (-1), .int .i64 0, .int .i64 1000000, .int .i64 1000001] 2)).drew (fun e w' => ∃ x, x ∈ [-1, 0, 1000000, 1000001] ∧ e = .returned (.int .i64 x) ∧ Src g B (N + 106 + 2) w' ∧ Keep g (wc.alloc (.cells #[.int .i64 (-1), .int .i64 0, .int .i64 1000000, .int .i64 1000001] 2)).drew w')) := srcAmong_any g B _ _ _ [-1, 0, 1000000, 1000001] _ (T0.out.src.next (ext_drew (ext1 wc (.cells #[.int .i64 (-1), .int .i64 0, .int .i64 1000000, .int .i64 1000001] 2)))) (by omega) (rd_litD wc #[.int .i64 (-1), .int .i64 0, .int .i64 1000000, .int .i64 1000001] 2 [-1, 0, 1000000, 1000001] rfl) HA.out (by simp) (by simp)
      first | go_region_law (first
        | (go_simp; go_at_call 34; ((with_reducible refine HAM.out.mono ?_); rintro e w6 ⟨z, hz, rfl, S3, K3'⟩; clear hz; have K3 : Keep g wc w6 := (Keep.of (ext_drew (ext1 wc (.cells #[.int .i64 (-1), .int .i64 0, .int .i64 1000000, .int .i64 1000001] 2))) hgl).trans K3'; have T3 := Lib.hid (T0.out.kept S3 K3); have hb3 : w.heap.size + 1 ≤ w6.heap.size + 1 := Nat.succ_le_succ T3.out.keep.2.1; have O6 : (w6.alloc (.cells #[.int .i64 z] 2)).ownsRow (w.heap.size + 1) 2 1 (.slice A3 gr.length c3) gr.length (gr.map (Value.int .i64)) := (T3.out.next (ext1 w6 (.cells #[.int .i64 z] 2))).o.o3; have hb4 : b < w6.heap.size := T3.out.x.lt; have m0 := T3.out.x.at 2 _ rfl; have q0 := T3.out.x.f 2))
        | (refine step_append_lies _ (by rfl) _ _ _ (by rfl) (w.heap.size + 1) 2 ti (.int .i64 0) 1 8 Tryz.underlying24 HI.out hz0 hz1 hz2 rfl (by decide) _ _ _ (by rfl) O6 ⟨w6.heap.size, 0, none⟩ 1 1 [.int .i64 z] (by rfl) (by rfl) (news_row1 _ _ _ rfl) (by simp [Value.oneCell']) (by omega) (by unfold maxLen; omega) (by omega) (by simp only [World.size_alloc]; exact hb3) _ rfl ?_; intro g6 cap6 w7 hown6 hgrow hat hlt; have B6 := (T3.out.next (ext1 w6 (.cells #[.int .i64 z] 2))).x.grown hgrow T3.out.f3; have z0 := B6.at 2 _ rfl; have G0 := B6.f 2)
        | fail) | fail
      all_goals
        have T := Lib.hid (SX.push3 (y := z) (T3.out.next (ext1 w6 (.cells #[.int .i64 z] 2))) hown6 hgrow hat)
        have HLN : Hid (hd.length ≤ 31 ∧ (pd ++ [zz]).length ≤ 31 ∧ (gr ++ [z]).length ≤ 31) := by unfold Hid; simp; omega
        clear hb4 hown6 hgrow hat hlt B6 z0 G0 m0 q0 T3 K3 S3 O6 hb3 T0 u2 v2
        dsimp only at T
        generalize w7.setCell ⟨b, 2, none⟩ (.slice (some ⟨g6, 0, none⟩) (gr.length + 1) cap6) = W5 at *
        have HE := Lib.hid (T.out.fin (M := N + 200) (by omega))
        have R1 := Lib.hid T.out.r
        have r0 := R1.out.at 0 _ rfl
        have r1 := R1.out.at 1 _ rfl
        have r2 := R1.out.at 2 _ rfl
        have f0 := R1.out.f 0
        have f1 := R1.out.f 1
        have f2 := R1.out.f 2
        obtain ⟨s0, s1, s2⟩ := set_three r0 r1 r2
        have x0 := T.out.x.at 0 _ rfl
        have x1 := T.out.x.at 1 _ rfl
        have x2 := T.out.x.at 2 _ rfl
        clear T R1
        go_wp2
        refine bodyPost_ret (v := .agg #[.slice A1 hd.length c1, .slice B2 (pd.length + 1) d2, .slice (some ⟨g6, 0, none⟩) (gr.length + 1) cap6]) ?_ rfl ⟨_, _, _, _, rfl, (HE.out _ _ _).1, HLN.out, (HE.out _ _ _).2.1, (HE.out _ _ _).2.2⟩
        simp [results, Tryz.results53, go_sem, s0, s1, s2]
  by_cases e3 : k = 3
  · have u2 := T.out.x.at 2 _ rfl
    have v2 := T.out.x.f 2
    have T2 := Lib.hid (T.out.next (ext1 w2 (.cells #[.int .i64 1] 2)))
    have hown : (w2.alloc (.cells #[.int .i64 1] 2)).ownsRow (w.heap.size + 1) 2 1 (.slice A3 gr.length c3) gr.length (gr.map (Value.int .i64)) := T2.out.o.o3
    have hb4 : w.heap.size ≤ w2.heap.size := T.out.keep.2.1
    have hb5 : b < w2.heap.size := T.out.x.lt
    go_wp2_with (at_builtin; go_must (refine wpList_append_lies _ rfl _ _ 24 rfl (w.heap.size + 1) 2 ti (.int .i64 0) 1 8 Tryz.underlying24 HI.out hz0 hz1 hz2 rfl (by decide) _ _ _ rfl hown ⟨w2.heap.size, 0, none⟩ 1 1 [.int .i64 1] rfl rfl (news_row1 _ _ _ rfl) ?c2 (by omega) ?c3 ?c4 ?c5 _ rfl ?_))
    case c2 => simp [Value.oneCell']
    case c3 => unfold maxLen; omega
    case c4 => omega
    case c5 => simp; exact hb4
    intro g6 cap6 w7 hown6 hgrow hat hlt
    have B6 := T2.out.x.grown hgrow T2.out.f3
    have z0 := B6.at 2 _ rfl
    have G0 := B6.f 2
    have T := Lib.hid (SX.push3 (y := 1) T2.out hown6 hgrow (hat.imp id fun h => by rw [h]; simp))
    have HLN : Hid (hd.length ≤ 31 ∧ pd.length ≤ 31 ∧ (gr ++ [1]).length ≤ 31) := by unfold Hid; simp; omega
    clear hown6 hgrow hat hlt B6 hown hb4 hb5 T2 u2 v2
    dsimp only at T
    go_upto_region 21 with fail
    clear z0 G0
    generalize w7.setCell ⟨b, 2, none⟩ (.slice (some ⟨g6, 0, none⟩) (gr.length + 1) cap6) = W5 at *
    have HE := Lib.hid (T.out.fin (M := N + 200) (by omega))
    have R1 := Lib.hid T.out.r
    have r0 := R1.out.at 0 _ rfl
    have r1 := R1.out.at 1 _ rfl
    have r2 := R1.out.at 2 _ rfl
    have f0 := R1.out.f 0
    have f1 := R1.out.f 1
    have f2 := R1.out.f 2
    obtain ⟨s0, s1, s2⟩ := set_three r0 r1 r2
    have x0 := T.out.x.at 0 _ rfl
    have x1 := T.out.x.at 1 _ rfl
    have x2 := T.out.x.at 2 _ rfl
    clear T R1
    go_wp2
    refine bodyPost_ret (v := .agg #[.slice A1 hd.length c1, .slice A2 pd.length c2, .slice (some ⟨g6, 0, none⟩) (gr.length + 1) cap6]) ?_ rfl ⟨_, _, _, _, rfl, (HE.out _ _ _).1, HLN.out, (HE.out _ _ _).2.1, (HE.out _ _ _).2.2⟩
    simp [results, Tryz.results53, go_sem, s0, s1, s2]
  by_cases e4 : k = 4
  · have HE := Lib.hid (T.out.fin (M := N + 200) (by omega))
    have R1 := Lib.hid T.out.r
    have r0 := R1.out.at 0 _ rfl
    have r1 := R1.out.at 1 _ rfl
    have r2 := R1.out.at 2 _ rfl
    have f0 := R1.out.f 0
    have f1 := R1.out.f 1
    have f2 := R1.out.f 2
    obtain ⟨s0, s1, s2⟩ := set_three r0 r1 r2
    clear T R1
    go_wp2
    refine bodyPost_ret (v := .agg #[.slice none 0 0, .slice none 0 0, .slice none 0 0]) ?_ rfl ⟨⟨[], [], []⟩, _, _, _, rfl, Own3.nil _ _, by simp, (HE.out _ _ _).2.1, (HE.out _ _ _).2.2⟩
    simp [results, Tryz.results53, go_sem, s0, s1, s2]
  by_cases e5 : k = 5
  · have u0 := T.out.x.at 0 _ rfl
    have v0 := T.out.x.f 0
    have hb5 : b < w2.heap.size := T.out.x.lt
    have T2 := Lib.hid (T.out.noHd)
    rw [World.setCell_alloc_past _ _ _ _ hb5] at T2
    clear T
    go_wp2_with fail
    clear u0 v0
    generalize (w2.setCell ⟨b, 0, none⟩ (.slice (some ⟨w2.heap.size, 0, none⟩) 0 0)).alloc (.cells #[] 2) = W3 at *
    generalize w2.heap.size = h3 at *
    refine (srcPick_any g B _ 2 _ T2.out.src (by omega) (by omega)).mono ?_
    rintro e w4 ⟨m, m1, m2, rfl, S1, K1⟩
    have T := Lib.hid (T2.out.kept S1 K1)
    clear S1 K1 T2 hb5
    obtain ⟨m, rfl⟩ : ∃ j : Nat, m = (j : Int) := ⟨m.toNat, by omega⟩
    have hm3 : m ≤ 1 := by omega
    clear m1 m2 e0 e1 e2 e3 e4 e5
    have HLP : Hid (pd.length ≤ 30 ∧ gr.length ≤ 30) := ⟨hl2, hl3⟩
    go_wp2_with fail
    go_loopw [4] (fun t wr => ∃ (k : Nat) (xs : List Int) (A : Option Addr) (c : Nat), t = .int .i64 k ∧ k ≤ 31 ∧ xs.length + k ≤ 31 ∧ Hid (SX g B (N + 110) b ⟨xs, pd, gr⟩ (.slice A xs.length c) (.slice A2 pd.length c2) (.slice A3 gr.length c3) w wr)) (fun t _ => (intOf t).toNat)
    case atStart => exact ⟨30 + m, [], _, _, val_int (by omega), by omega, by simp; omega, T.out.more (by omega)⟩
    case round =>
      obtain ⟨j, xs, A, c, rfl, hj, hxj, HT⟩ := hrel
      clear T
      have T := HT
      clear HT
      by_cases h0 : 0 < j
      · have h0i : (0 : Int) < (j : Int) := by omega
        have u0 := T.out.x.at 0 _ rfl
        have v0 := T.out.x.f 0
        have T2 := Lib.hid (T.out.next (ext1 wr (.cells #[.int .i64 1] 2)))
        have hown : (wr.alloc (.cells #[.int .i64 1] 2)).ownsRow (w.heap.size + 1) 2 1 (.slice A xs.length c) xs.length (xs.map (Value.int .i64)) := T2.out.o.o1
        have hb4 : w.heap.size ≤ wr.heap.size := T.out.keep.2.1
        have hb5 : b < wr.heap.size := T.out.x.lt
        go_wp2_with (at_builtin; go_must (refine wpList_append_lies _ rfl _ _ 24 rfl (w.heap.size + 1) 2 ti (.int .i64 0) 1 8 Tryz.underlying24 HI.out hz0 hz1 hz2 rfl (by decide) _ _ _ rfl hown ⟨wr.heap.size, 0, none⟩ 1 1 [.int .i64 1] rfl rfl (news_row1 _ _ _ rfl) ?c2 (by omega) ?c3 ?c4 ?c5 _ rfl ?_))
        case c2 => simp [Value.oneCell']
        case c3 => unfold maxLen; omega
        case c4 => omega
        case c5 => simp; exact hb4
        intro g6 cap6 w7 hown6 hgrow hat hlt
        have B6 := T2.out.x.grown hgrow T2.out.f1
        have z0 := B6.at 0 _ rfl
        have G0 := B6.f 0
        have T := Lib.hid (SX.push1 (y := 1) T2.out hown6 hgrow (hat.imp id fun h => by rw [h]; simp))
        have HLQ : Hid ((xs ++ [1]).length = xs.length + 1) := by unfold Hid; rw [List.length_append]; rfl
        clear hown6 hgrow hat hlt B6 hown hb4 hb5 T2 u0 v0
        go_wp2
        go_roundw
        case rel => exact ⟨j - 1, xs ++ [1], _, _, val_int (by omega), by omega, by rw [HLQ.out]; omega, by rw [HLQ.out]; exact T.out⟩
        case measure => simp [intOf]; omega
      · have h0i : ¬ (0 : Int) < (j : Int) := by omega
        have HLN : Hid (xs.length ≤ 31 ∧ pd.length ≤ 31 ∧ gr.length ≤ 31) := by have := HLP.out; unfold Hid; omega
        have HE := Lib.hid (T.out.fin (M := N + 200) (by omega))
        have R1 := Lib.hid T.out.r
        have r0 := R1.out.at 0 _ rfl
        have r1 := R1.out.at 1 _ rfl
        have r2 := R1.out.at 2 _ rfl
        have f0 := R1.out.f 0
        have f1 := R1.out.f 1
        have f2 := R1.out.f 2
        obtain ⟨s0, s1, s2⟩ := set_three r0 r1 r2
        have x0 := T.out.x.at 0 _ rfl
        have x1 := T.out.x.at 1 _ rfl
        have x2 := T.out.x.at 2 _ rfl
        clear T R1
        go_wp2
        refine bodyPost_ret (v := .agg #[.slice A xs.length c, .slice A2 pd.length c2, .slice A3 gr.length c3]) ?_ rfl ⟨_, _, _, _, rfl, (HE.out _ _ _).1, HLN.out, (HE.out _ _ _).2.1, (HE.out _ _ _).2.2⟩
        simp [results, Tryz.results53, go_sem, s0, s1, s2]
  · have HLN : Hid (hd.length ≤ 31 ∧ pd.length ≤ 31 ∧ gr.length ≤ 31) := by unfold Hid; omega
    go_upto_region 21 with fail
    have HE := Lib.hid (T.out.fin (M := N + 200) (by omega))
    have R1 := Lib.hid T.out.r
    have r0 := R1.out.at 0 _ rfl
    have r1 := R1.out.at 1 _ rfl
    have r2 := R1.out.at 2 _ rfl
    have f0 := R1.out.f 0
    have f1 := R1.out.f 1
    have f2 := R1.out.f 2
    obtain ⟨s0, s1, s2⟩ := set_three r0 r1 r2
    have x0 := T.out.x.at 0 _ rfl
    have x1 := T.out.x.at 1 _ rfl
    have x2 := T.out.x.at 2 _ rfl
    clear T R1
    go_wp2
    refine bodyPost_ret (v := .agg #[.slice A1 hd.length c1, .slice A2 pd.length c2, .slice A3 gr.length c3]) ?_ rfl ⟨_, _, _, _, rfl, (HE.out _ _ _).1, HLN.out, (HE.out _ _ _).2.1, (HE.out _ _ _).2.2⟩
    simp [results, Tryz.results53, go_sem, s0, s1, s2]
end Go.Proofs.YtjgafjbccfjojaaGreat
