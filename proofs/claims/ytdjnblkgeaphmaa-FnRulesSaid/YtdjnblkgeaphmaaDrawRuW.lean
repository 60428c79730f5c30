/- What the statement on rules draws: lengths of years, lists of divisors. No condition but those that each theorem names. -/
import Derived.Test.YtdjnblkgeaphmaaDrawGW
import Derived.Test.YtdjnblkgeaphmaaExpW
import Derived.Test.YtdjnblkgeaphmaaMinW
import Derived.Test.YtdjnblkgeaphmaaBoxW
import Derived.Test.YtdjnblkgeaphmaaKeepA
import Derived.Deep.AppendLies
namespace Go.Proofs.Ytdjnblkgeaphmaa
open Go.RowKit Go.Sort

set_option maxHeartbeats 1000000 in
theorem l24Length_any (g B N : Nat) (w : World) (h : Src g B N w) (hN : N ≤ 800000) :
    Calls Try.prog 105 #[.pointer (some ⟨g, 0, none⟩)] w (RetF g B (N + 20) w) := by
  have T := Lib.hid (S0.start h 25)
  clear h
  go_enter Try.func105, Try.ntmps105
  go_wp2_with fail
  refine (srcOne_any g B N 10 _ T.out.1 (by omega) (by omega)).mono ?_
  rintro e w1 ⟨b, rfl, S1, K1⟩
  have T := Lib.hid (T.out.keep S1 K1)
  clear S1 K1
  cases b
  · go_wp2_with fail
    refine (srcOne_any g B _ 6 _ T.out.1 (by omega) (by omega)).mono ?_
    rintro e w2 ⟨b, rfl, S2, K2⟩
    have T := Lib.hid (T.out.keep S2 K2)
    clear S2 K2
    cases b
    · go_wp2_with fail
      refine (srcPick_any g B _ 400 _ T.out.1 (by omega) (by omega)).mono ?_
      rintro e w3 ⟨x, x1, x2, rfl, S3, K3⟩
      have T := Lib.hid (T.out.keep S3 K3)
      go_wp2_with fail
      refine (srcPick_any g B _ (1 + x) _ T.out.1 (by omega) (by omega)).mono ?_
      rintro e w4 ⟨y, y1, y2, rfl, S4, K4⟩
      have T := Lib.hid (T.out.keep S4 K4)
      go_wp2_with fail
      refine (l02Make_some _ _ _ (by omega) (by omega) (by omega) (by omega)).mono ?_
      rintro e w5 ⟨u, v, rfl, hb5⟩
      have T := Lib.hid (T.out.next hb5)
      clear hb5 S3 K3 S4 K4
      obtain ⟨r0, r1, rf, rl⟩ := T.out.2.2.1
      have rf0 := rf 0
      have rf1 := rf 1
      clear rf
      obtain ⟨s0, s1⟩ := set_two r0 r1
      go_wp2
      refine bodyPost_ret ?_ rfl (S0.ret T.out (by omega) _ _ u v)
      simp [results, Try.results105, go_sem, s0, s1]
    · skip
      obtain ⟨r0, r1, rf, rl⟩ := T.out.2.2.1
      have rf0 := rf 0
      have rf1 := rf 1
      clear rf
      obtain ⟨s0, s1⟩ := set_two r0 r1
      go_wp2
      refine bodyPost_ret ?_ rfl (S0.ret T.out (by omega) _ _ 365242189 1000000)
      simp [results, Try.results105, go_sem, s0, s1]
  · go_wp2_with fail
    refine (l02Bent_any g B _ _ T.out.1 (by omega)).mono ?_
    rintro e w2 ⟨a, b, rfl, S2, K2⟩
    have T := Lib.hid (T.out.keep S2 K2)
    clear S2 K2
    obtain ⟨r0, r1, rf, rl⟩ := T.out.2.2.1
    have rf0 := rf 0
    have rf1 := rf 1
    clear rf
    obtain ⟨s0, s1⟩ := set_two r0 r1
    go_wp2
    refine bodyPost_ret ?_ rfl (S0.ret T.out (by omega) _ _ a b)
    simp [results, Try.results105, go_sem, s0, s1]
theorem Src.grown {g B N : Nat} {W W' : World} {row : Option Nat} (h : Src g B N W) (hg : W.grownBy W' row) (hr : ∀ k, row = some k → g < k) : Src g B N W' := by
  obtain ⟨A, n, c, bs, k, sd, h0, h1, h2, h3, h4, h5, h6, h7, h8, h9, h10, h11⟩ := h
  have hb : W'.heap[g]? = W.heap[g]? := hg.block g h10 (fun e => by have := hr g e.symm; omega)
  exact ⟨A, n, c, bs, k, sd, (World.cell?_of_block (a := ⟨g, 0, none⟩) hb).trans h0, (World.cell?_of_block (a := ⟨g, 1, none⟩) hb).trans h1, (World.cell?_of_block (a := ⟨g, 2, none⟩) hb).trans h2, h3,
    h4.below ((Below.refl B W).grown hg (by omega) (fun k hk => by have := hr k hk; omega)), h5, h6, h7, h8, fun j => by have := h9 j; simpa only [World.frozen?, hb] using this, Nat.lt_of_lt_of_le h10 hg.size, h11⟩
theorem own_kept {g : Nat} {W W' : World} {base : Nat} {e : TypeId} {size n : Nat} {v : Value} {xs : List Value} (h : W.ownsRow base e size v n xs) (k : Keep g W W') (hg : g < base) : W'.ownsRow base e size v n xs := by
  obtain ⟨h1, h2⟩ := h
  refine ⟨h1, ?_⟩
  rcases h2 with h2 | ⟨b, cap, cur, hv, hb, hh, r⟩
  · exact .inl h2
  · have hlt : b < W.heap.size := (Array.getElem?_eq_some_iff.1 hh).1
    exact .inr ⟨b, cap, cur, hv, hb, (k.2.2 b (by omega) hlt).trans hh, r⟩
theorem news_row1 (w : World) {C : Array Value} (T : TypeId) (vs : List Value) (h : C.toList = vs) : ∀ j u, vs[j]? = some u → (w.alloc (.cells C T)).cell? ((⟨w.heap.size, 0, none⟩ : Addr).add j) = some u := fun j u hu => by
  rw [Addr.add_lit, Nat.zero_add, cell_one, ← Array.getElem?_toList, h]
  exact hu
/-- A list of numbers on its way, and the source. -/
structure SL (g B N : Nat) (w : World) (out : List Int) (v : Value) (W : World) : Prop where
  src : Src g B N W
  keep : Keep g w W
  row : W.ownsRow w.heap.size 2 1 v out.length (out.map (Value.int .i64))
  hg : g < w.heap.size
section
variable {g B N M : Nat} {w W W' : World} {out : List Int} {v : Value}
theorem SL.kept (t : SL g B N w out v W) (hs : Src g B M W') (k : Keep g W W') : SL g B M w out v W' := ⟨hs, t.keep.trans k, own_kept t.row k t.hg, t.hg⟩
theorem SL.next (t : SL g B N w out v W) (hb : Below W.heap.size W W') : SL g B N w out v W' := t.kept (t.src.next hb) (Keep.of hb t.src.lt)
theorem SL.more (t : SL g B N w out v W) (h : N ≤ M) : SL g B M w out v W := ⟨t.src.more h, t.keep, t.row, t.hg⟩
theorem SL.push (t : SL g B N w out v W) {x : Int} {v' : Value} (hown : W'.ownsRow w.heap.size 2 1 v' (out.length + 1) (out.map (Value.int .i64) ++ [.int .i64 x])) (hgr : W.grownBy W' v.ownBlock) : SL g B N w (out ++ [x]) v' W' := by
  have hl := fun k hk => (t.row.lt k hk).1
  refine ⟨t.src.grown hgr (fun k hk => by have := hl k hk; have := t.hg; omega), ⟨?_, Nat.le_trans t.keep.2.1 hgr.size, fun b hb hlt => ?_⟩, by simpa using hown, t.hg⟩
  · exact t.keep.1.grown hgr (by have := t.hg; have := t.keep.2.1; omega) (fun k hk => by have := hl k hk; have := t.hg; omega)
  · exact (hgr.block b (Nat.lt_of_lt_of_le hlt t.keep.2.1) (fun e => by have := hl b e.symm; omega)).trans (t.keep.2.2 b hb hlt)
end
/-- What a draw of a list of numbers returns. -/
def RetLs (g B N : Nat) (w : World) (e : Ending) (w' : World) : Prop := ∃ (A : Option Addr) (xs : List Int) (c : Nat), e = .returned (.slice A xs.length c) ∧ xs.length ≤ 9 ∧ Rd (Value.int .i64) w' w'.heap.size A xs ∧ (∀ b o i, A = some ⟨b, o, i⟩ → g < b) ∧ Src g B N w' ∧ Keep g w w'
theorem SL.ret {g B N : Nat} {w W : World} {out : List Int} {v : Value} (t : SL g B N w out v W) {M : Nat} (hM : N ≤ M) (hl : out.length ≤ 9) : RetLs g B M w (.returned v) W := by
  obtain ⟨_, A, c, rfl, hw⟩ := Wr.of_own t.row
  refine ⟨A, out, c, rfl, hl, hw.rd, fun b o i e => ?_, t.src.more hM, t.keep⟩
  have := (t.row.lt b (by rw [e]; rfl)).1
  have := t.hg
  omega
set_option maxRecDepth 100000 in
set_option maxHeartbeats 2000000 in
theorem l24List_any (g B N : Nat) (w : World) (h : Src g B N w) (hN : N ≤ 800000) :
    Calls Try.prog 128 #[.pointer (some ⟨g, 0, none⟩)] w (RetLs g B (N + 20) w) := by
  obtain ⟨ti, hi, hz0, hz1, hz2⟩ := info_parts info64
  have HI := Lib.hid hi
  have HG := Lib.hid h.lt
  have HS := Lib.hid h
  clear h hi
  go_enter Try.func128, Try.ntmps128
  go_wp2_with fail
  refine (srcPick_any g B N 6 _ HS.out (by omega) (by omega)).mono ?_
  rintro e w1 ⟨x, x1, x2, rfl, S1, K1⟩
  have T : Hid (SL g B (N + 2) w [1 + x] (.slice (some ⟨w1.heap.size, 0, none⟩) 1 1) (w1.alloc (.cells #[.int .i64 (1 + x)] 2))) :=
    ⟨S1.next (ext1 _ _), K1.trans (Keep.of (ext1 _ _) S1.lt), by
      have h := World.ownsRow_lit (base := w.heap.size) (e := 2) (size := 1) w1 #[.int .i64 (1 + x)] 1 K1.2.1 (by unfold maxLen; omega) rfl
      simpa using h, HG.out⟩
  clear S1 K1 HS
  go_wp2_with fail
  generalize w1.alloc (.cells #[.int .i64 (1 + x)] 2) = W1 at *
  refine (srcPick_any g B _ 4 _ T.out.src (by omega) (by omega)).mono ?_
  rintro e w2 ⟨k, k1, k2, rfl, S2, K2⟩
  have T := Lib.hid (T.out.kept S2 K2)
  generalize w1.heap.size = h1 at *
  clear S2 K2
  obtain ⟨m, rfl⟩ : ∃ m : Nat, k = (m : Int) := ⟨k.toNat, by omega⟩
  have hm3 : m ≤ 3 := by omega
  clear k1 k2
  go_wp2_with fail
  go_loopw [4, 3] (fun t v wr => ∃ (k : Nat) (out : List Int) (h c : Nat), t = .int .i64 k ∧ k ≤ 3 ∧ v = .slice (some ⟨h, 0, none⟩) out.length c ∧ 1 ≤ out.length ∧ out.length + k ≤ 4 ∧ Hid (SL g B (N + 2 + 2 + 2 * (3 - k)) w out v wr)) (fun t _ _ => (intOf t).toNat)
  case atStart => exact ⟨m, [1 + x], h1, 1, rfl, hm3, rfl, by simp, by simp; omega, T.out.more (by omega)⟩
  case round =>
    obtain ⟨k, out, h, c, rfl, hk, rfl, ho1, ho2, HT⟩ := hrel
    clear T
    obtain ⟨y, hy⟩ : ∃ y, out[out.length - 1]? = some y := ⟨_, List.getElem?_eq_getElem (by omega)⟩
    have c0 : wr.cell? ⟨h, out.length - 1, none⟩ = some (.int .i64 y) := by
      have := HT.out.row.cells (g := h) rfl (out.length - 1) (.int .i64 y) (by rw [List.getElem?_map, hy]; rfl)
      rwa [Addr.add_lit, Nat.zero_add] at this
    have hhl := HT.out.row.lt h rfl
    have hhg : g < h := by have := HG.out; omega
    have hym : (out.map (Value.int .i64))[out.length - 1]? = some (.int .i64 y) := by rw [List.getElem?_map, hy]; rfl
    clear hy
    obtain ⟨n1, hn1⟩ : ∃ n1, out.length = n1 + 1 := ⟨out.length - 1, by omega⟩
    have HL := Lib.hid hn1
    rw [hn1] at ho1 ho2 c0 hym ⊢
    simp only [Nat.add_sub_cancel] at c0 hym
    have HYM := Lib.hid hym
    clear hym
    by_cases h0 : 0 < k
    · have i0 : (0 : Int) ≤ (n1 : Int) := by omega
      have i1 : (n1 : Int) < (n1 : Int) + 1 := by omega
      have v1 : IntKind.i64.wrap ((n1 : Int) + 1 - 1) = (n1 : Int) := by rw [show (n1 : Int) + 1 - 1 = n1 by omega]; exact IntWalk.i64_in _ (by omega)
      have v2 : IntKind.i64.wrap (n1 : Int) = (n1 : Int) := IntWalk.i64_in _ (by omega)
      have v3 : (n1 : Int) + 1 - 1 = (n1 : Int) := by omega
      clear hn1
      have HO := Lib.hid HT.out.row
      rw [HL.out] at HO
      go_wp2_with fail
      go_region_held3 (fun W => W.cell? ⟨h, n1, none⟩ = some (.int .i64 y))
        (first
          | exact c0
          | exact (K3.cell (o := n1) (by omega) hhl.2).trans c0
          | exact hkeep n1 _ HYM.out
          | exact (World.cell?_alloc_lt _ _ _ (Nat.lt_of_lt_of_le hhl.2 K3.2.1)).trans ((K3.cell (o := n1) (by omega) hhl.2).trans c0))
        (first
          | (go_at_call 108; (with_reducible refine (srcPick_any g B _ 6 _ (HT.out.src.next (ext_drew (Below.refl _ _))) (by omega) (by omega)).mono ?_); rintro e w3 ⟨z, z1, z2, rfl, S3, K3'⟩; have K3 : Keep g wr w3 := (Keep.refl g wr).drew.trans K3'; have T3 := Lib.hid (HT.out.kept S3 K3); have hb3 : w.heap.size ≤ w3.heap.size + 1 := Nat.le_succ_of_le T3.out.keep.2.1)
          | ((refine step_append_keep _ (by rfl) _ _ _ (by rfl) w.heap.size 2 ti (.int .i64 0) 1 8 Try.underlying26 HI.out hz0 hz1 hz2 rfl (by decide) h c (n1 + 1) (out.map (Value.int .i64)) (by rfl) (by have h := (T3.out.next (ext1 w3 (.cells #[.int .i64 (IntKind.i64.wrap (y * IntKind.i64.wrap (2 + z)))] 2))).row; rw [HL.out] at h; exact h) ⟨w3.heap.size, 0, none⟩ 1 1 [.int .i64 (IntKind.i64.wrap (y * IntKind.i64.wrap (2 + z)))] (by rfl) (by rfl) (news_row1 _ _ _ rfl) (by simp [Value.oneCell']) (by omega) (by unfold maxLen; omega) (by omega) (by simp; exact hb3) ?_; intro g6 cap6 w6 hown6 hgrow hat hlt6 hkeep)))
      have T6 := Lib.hid (SL.push (x := IntKind.i64.wrap (y * IntKind.i64.wrap (2 + z))) (T3.out.next (ext1 w3 (.cells #[.int .i64 (IntKind.i64.wrap (y * IntKind.i64.wrap (2 + z)))] 2))) (by rw [HL.out]; exact hown6) hgrow)
      generalize IntKind.i64.wrap (y * IntKind.i64.wrap (2 + z)) = q at *
      have HLQ : Hid ((out ++ [q]).length = n1 + 1 + 1) := by unfold Hid; rw [List.length_append, HL.out]; rfl
      clear v1 v2 v3 hkeep hown6 hgrow hat hlt6 c0 T3 K3 S3
      go_wp2
      go_roundw
      case rel => exact ⟨k - 1, out ++ [q], g6, cap6, val_int (by omega), by omega, by rw [HLQ.out], by rw [HLQ.out]; omega, by rw [HLQ.out]; omega, T6.out.more (by omega)⟩
      case measure => simp [intOf]; omega
    · have T := Lib.hid (HT.out.more (M := N + 10) (by omega))
      have hn4 : n1 + 1 ≤ 4 := by omega
      clear HT hn1 ho2
      go_wp2_with fail
      refine (srcPick_any g B _ 16 _ T.out.src (by omega) (by omega)).mono ?_
      rintro e w3 ⟨z, z1, z2, rfl, S3, K3⟩
      have c1 : w3.cell? ⟨h, n1, none⟩ = some (.int .i64 y) := (K3.cell (o := n1) (by omega) hhl.2).trans c0
      have T := Lib.hid (T.out.kept S3 K3)
      clear c0 S3 K3
      by_cases e0 : z = 0
      · go_wp2_with fail
        refine (srcAmong_any g B _ _ _ [-1, 0, 100000, 100001, 7] _ (T.out.src.next (ext1 _ _)) (by omega) (rd_lit _ _ _ _ rfl) (fun b o e => by injection e with e; injection e; have := T.out.src.lt; omega) (by simp) (by simp)).mono ?_
        rintro e w4 ⟨q, hq, rfl, S4, K4⟩
        have T := Lib.hid ((T.out.next (ext1 w3 (.cells #[.int .i64 (-1), .int .i64 0, .int .i64 100000, .int .i64 100001, .int .i64 7] 2))).kept S4 K4)
        have hown := (T.out.next (ext1 w4 (.cells #[.int .i64 q] 2))).row
        have hb4 : w.heap.size ≤ w4.heap.size + 1 := Nat.le_succ_of_le T.out.keep.2.1
        rw [HL.out] at hown
        clear hq S4 K4 c1
        go_wp2_with (at_builtin; go_must (refine wpList_append_lies _ rfl _ _ 26 rfl w.heap.size 2 ti (.int .i64 0) 1 8 Try.underlying26 HI.out hz0 hz1 hz2 rfl (by decide) _ _ _ rfl hown ⟨w4.heap.size, 0, none⟩ 1 1 [.int .i64 q] rfl rfl (news_row1 _ _ _ rfl) ?c2 (by omega) ?c3 ?c4 ?c5 _ rfl ?_))
        case c2 => simp [Value.oneCell']
        case c3 => unfold maxLen; omega
        case c4 => omega
        case c5 => simp; exact hb4
        intro g6 cap6 w6 hown6 hgrow _ _
        have T6 := Lib.hid (SL.push (x := q) (T.out.next (ext1 w4 (.cells #[.int .i64 q] 2))) (by rw [HL.out]; exact hown6) hgrow)
        have HLQ : Hid ((out ++ [q]).length ≤ 9) := by unfold Hid; rw [List.length_append, HL.out]; simp; omega
        clear hown6 hgrow hown
        go_wp2
        go_ret
        exact SL.ret T6.out (by omega) HLQ.out
      · by_cases e1 : z = 1
        · have hown := (T.out.next (ext1 w3 (.cells #[.int .i64 y] 2))).row
          have hb4 : w.heap.size ≤ w3.heap.size + 1 := Nat.le_succ_of_le T.out.keep.2.1
          rw [HL.out] at hown
          have i0 : (0 : Int) ≤ (n1 : Int) := by omega
          have i1 : (n1 : Int) < (n1 : Int) + 1 := by omega
          go_wp2_with (at_builtin; go_must (refine wpList_append_lies _ rfl _ _ 26 rfl w.heap.size 2 ti (.int .i64 0) 1 8 Try.underlying26 HI.out hz0 hz1 hz2 rfl (by decide) _ _ _ rfl hown ⟨w3.heap.size, 0, none⟩ 1 1 [.int .i64 y] rfl rfl (news_row1 _ _ _ rfl) ?d2 (by omega) ?d3 ?d4 ?d5 _ rfl ?_))
          case d2 => simp [Value.oneCell']
          case d3 => unfold maxLen; omega
          case d4 => omega
          case d5 => simp; exact hb4
          intro g6 cap6 w6 hown6 hgrow _ _
          have T6 := Lib.hid (SL.push (x := y) (T.out.next (ext1 w3 (.cells #[.int .i64 y] 2))) (by rw [HL.out]; exact hown6) hgrow)
          have HLQ : Hid ((out ++ [y]).length ≤ 9) := by unfold Hid; rw [List.length_append, HL.out]; simp; omega
          clear hown6 hgrow hown c1
          go_wp2
          go_ret
          exact SL.ret T6.out (by omega) HLQ.out
        · by_cases e2 : z = 2
          · go_wp2_with fail
            refine (srcPick_any g B _ 2 _ (T.out.src.next (ext1 _ _)) (by omega) (by omega)).mono ?_
            rintro e w4 ⟨q, q1, q2, rfl, S4, K4⟩
            obtain ⟨m4, rfl⟩ : ∃ m4 : Nat, q = (m4 : Int) := ⟨q.toNat, by omega⟩
            have HR4 : Hid (Rd (Value.int .i64) w4 w4.heap.size (some ⟨w3.heap.size, 0, none⟩) ([1, 2, 4, 8, 16, 32, 64, 128, 256].take (8 + m4))) := fun _ => ⟨w3.heap.size, 0, rfl, by have := K4.2.1; simp at this; omega, fun j v hv => by
              rw [List.getElem?_take] at hv
              split at hv
              · rw [Nat.zero_add, K4.cell (by have := T.out.src.lt; omega) (by simp), cell_one, ← Array.getElem?_toList]
                show ([1, 2, 4, 8, 16, 32, 64, 128, 256].map (Value.int .i64))[j]? = _
                rw [List.getElem?_map, hv]; rfl
              · cases hv⟩
            have HL4 : Hid ((([1, 2, 4, 8, 16, 32, 64, 128, 256] : List Int).take (8 + m4)).length = 8 + m4) := by unfold Hid; rw [List.length_take]; simp; omega
            have HK4 := Lib.hid (T.out.keep.trans ((Keep.of (ext1 w3 _) T.out.src.lt).trans K4))
            have HS4 := Lib.hid S4
            have hm4 : m4 ≤ 1 := by omega
            have HGH : Hid (g < w3.heap.size) := T.out.src.lt
            clear S4 K4 c1 T q1 q2
            go_wp2
            go_ret
            exact ⟨some ⟨w3.heap.size, 0, none⟩, _, 9, by rw [HL4.out]; rfl, by rw [HL4.out]; omega, HR4.out, fun b o i e => by injection e with e; injection e with e; have := HGH.out; omega, HS4.out.more (by omega), HK4.out⟩
          · by_cases e3 : z = 3
            · have HK4 := Lib.hid (T.out.keep.trans (Keep.of (ext1 w3 (.cells #[] 2)) T.out.src.lt))
              have HS4 := Lib.hid (T.out.src.next (ext1 w3 (.cells #[] 2)))
              have HGH : Hid (g < w3.heap.size) := T.out.src.lt
              clear c1 T
              go_wp2
              go_ret
              exact ⟨some ⟨w3.heap.size, 0, none⟩, [], _, rfl, by simp, fun hn => by simp at hn, fun b o i e => by injection e with e; injection e with e; have := HGH.out; omega, HS4.out.more (by omega), HK4.out⟩
            · have HLO : Hid (out.length ≤ 9) := by unfold Hid; rw [HL.out]; omega
              have HRT := Lib.hid (SL.ret T.out (M := N + 20) (by omega) HLO.out)
              rw [HL.out] at HRT
              clear c1 T
              go_wp2
              go_ret
              exact HRT.out
/-- What the statements' draws return. -/
def RetFK (w : World) (e : Ending) (w' : World) : Prop := ∃ a b k : Int, e = .returned (.tuple #[fracV a b, .int .i64 k]) ∧ Below w.heap.size w w'
theorem drawDivisorShare_any (A : Option Addr) (n c : Nat) (w : World) (h : Bytes w A n) :
    Calls Try.prog 41 #[.slice A n c] w fun e w' => ∃ (A : Option Addr) (xs : List Int) (c : Nat), e = .returned (.slice A xs.length c) ∧ xs.length ≤ 9 ∧ Rd (Value.int .i64) w' w'.heap.size A xs ∧ Below w.heap.size w w' := by
  have H := Lib.hid h
  clear h
  go_enter Try.func41, Try.ntmps41
  go_wp2_with fail
  refine (l00From_bytes A n c _ H.out).mono ?_
  rintro e w1 ⟨rfl, S1, hb1⟩
  have HB := Lib.hid hb1
  go_wp2_with fail
  refine (l24List_any _ _ _ _ S1 (by omega)).mono ?_
  rintro e w2 ⟨A2, xs, c2, rfl, hl, hr, _, _, K2⟩
  have HR := Lib.hid hr
  have HE := Lib.hid (HB.out.trans K2.1)
  clear hr K2 S1 hb1
  go_wp2
  go_ret
  exact ⟨A2, xs, c2, rfl, hl, HR.out, HE.out⟩
set_option maxHeartbeats 1000000 in
theorem drawDivisorRule_any (A : Option Addr) (n c : Nat) (w : World) (h : Bytes w A n) :
    Calls Try.prog 38 #[.slice A n c] w fun e w' => ∃ (A : Option Addr) (xs : List Int) (c : Nat) (y : Int), e = .returned (.tuple #[.slice A xs.length c, .int .i64 y]) ∧ xs.length ≤ 9 ∧ Rd (Value.int .i64) w' w'.heap.size A xs ∧ Below w.heap.size w w' := by
  have H := Lib.hid h
  clear h
  go_enter Try.func38, Try.ntmps38
  go_wp2_with fail
  refine (l00From_bytes A n c _ H.out).mono ?_
  rintro e w1 ⟨rfl, S1, hb1⟩
  have HB := Lib.hid hb1
  go_wp2_with fail
  refine (l24List_any _ _ _ _ S1 (by omega)).mono ?_
  rintro e w2 ⟨A2, xs, c2, rfl, hl, hr, hA, S2, K2⟩
  have HR := Lib.hid hr
  have HS := Lib.hid S2
  have HA := Lib.hid hA
  have HE := Lib.hid (HB.out.trans K2.1)
  clear hr K2 S1 hb1 S2 hA
  by_cases h0 : 0 < xs.length
  · obtain ⟨b, off, rfl, hb, hc⟩ := HR.out h0
    obtain ⟨n1, hn1⟩ : ∃ n1, xs.length = n1 + 1 := ⟨xs.length - 1, by omega⟩
    obtain ⟨y, hy⟩ : ∃ y, xs[n1]? = some y := ⟨_, List.getElem?_eq_getElem (by omega)⟩
    have c0 := Lib.hid (hc n1 y hy)
    have hbg : b ≠ w.heap.size := by have := HA.out b off none rfl; omega
    have HL := Lib.hid hn1
    rw [hn1] at h0 hl ⊢
    clear hc hy hn1
    go_wp2_with fail
    refine (srcOne_any _ _ _ 2 _ HS.out (by omega) (by omega)).mono ?_
    rintro e w3 ⟨bb, rfl, S3, K3⟩
    have HR3 : Hid (Rd (Value.int .i64) w3 w3.heap.size (some ⟨b, off, none⟩) xs) := fun hp => by
      obtain ⟨b', o', e', hb', hc'⟩ := HR.out hp
      injection e' with e'
      injection e' with e1 e2
      subst e1 e2
      exact ⟨b, off, rfl, Nat.lt_of_lt_of_le hb K3.2.1, fun j v hv => (K3.cell hbg hb).trans (hc' j v hv)⟩
    have HE := Lib.hid (HE.out.trans K3.1)
    have c3 := (K3.cell (o := off + n1) hbg hb).trans c0.out
    have hb3 := Nat.lt_of_lt_of_le hb K3.2.1
    have HS := Lib.hid S3
    clear HR S3 K3 c0
    cases bb
    · clear c3
      go_wp2_with fail
      refine (l24DrawYear_any _ _ _ _ HS.out (by omega)).mono ?_
      rintro e w4 ⟨y4, rfl, S4, K4⟩
      have HR4 : Hid (Rd (Value.int .i64) w4 w4.heap.size (some ⟨b, off, none⟩) xs) := fun hp => by
        obtain ⟨b', o', e', hb', hc'⟩ := HR3.out hp
        injection e' with e'
        injection e' with e1 e2
        subst e1 e2
        exact ⟨b, off, rfl, Nat.lt_of_lt_of_le hb3 K4.2.1, fun j v hv => (K4.cell hbg hb3).trans (hc' j v hv)⟩
      have HE := Lib.hid (HE.out.trans K4.1)
      clear S4 K4
      go_wp2
      go_ret2
      exact ⟨_, xs, c2, y4, by rw [HL.out]; rfl, by rw [HL.out]; exact hl, HR4.out, HE.out⟩
    · have i0 : (0 : Int) ≤ (n1 : Int) := by omega
      have i1 : (n1 : Int) < (n1 : Int) + 1 := by omega
      obtain ⟨mn, hmn⟩ : ∃ mn, min 100 y = mn := ⟨_, rfl⟩
      have HMN := Lib.hid hmn
      clear hmn
      go_wp2_with fail
      refine (l00Min_any 100 y mn HMN.out _).mono ?_
      rintro e w' ⟨rfl, rfl⟩
      go_wp2_with fail
      refine (srcPick_any _ _ _ 30 _ HS.out (by omega) (by omega)).mono ?_
      rintro e w4 ⟨z, z1, z2, rfl, S4, K4⟩
      have HR4 : Hid (Rd (Value.int .i64) w4 w4.heap.size (some ⟨b, off, none⟩) xs) := fun hp => by
        obtain ⟨b', o', e', hb', hc'⟩ := HR3.out hp
        injection e' with e'
        injection e' with e1 e2
        subst e1 e2
        exact ⟨b, off, rfl, Nat.lt_of_lt_of_le hb3 K4.2.1, fun j v hv => (K4.cell hbg hb3).trans (hc' j v hv)⟩
      have HE := Lib.hid (HE.out.trans K4.1)
      clear S4 K4 c3
      go_wp2_with fail
      refine (l00Max_any 0 _ _ rfl _).mono ?_
      rintro e w' ⟨rfl, rfl⟩
      go_wp2
      go_ret2
      exact ⟨_, xs, c2, _, by rw [HL.out]; rfl, by rw [HL.out]; exact hl, HR4.out, HE.out⟩
  · have hl0 : xs.length = 0 := by omega
    have HL := Lib.hid hl0
    rw [hl0]
    clear hl0 h0
    go_wp2_with fail
    refine (l24DrawYear_any _ _ _ _ HS.out (by omega)).mono ?_
    rintro e w4 ⟨y4, rfl, S4, K4⟩
    have HE := Lib.hid (HE.out.trans K4.1)
    clear S4 K4
    go_wp2
    go_ret2
    exact ⟨_, xs, c2, y4, by rw [HL.out]; rfl, hl, fun hp => by have := HL.out; omega, HE.out⟩
set_option maxHeartbeats 1000000 in
theorem drawRulesFor_any (A : Option Addr) (n c : Nat) (w : World) (h : Bytes w A n) :
    Calls Try.prog 29 #[.slice A n c] w (RetFK w) := by
  have H := Lib.hid h
  clear h
  go_enter Try.func29, Try.ntmps29
  go_wp2_with fail
  refine (l00From_bytes A n c _ (H.out.next (ext1 _ _))).mono ?_
  rintro e w1 ⟨rfl, S1, hb1⟩
  have T := Lib.hid (SG.start S1 hb1)
  simp only [World.size_alloc]
  clear S1 hb1
  go_wp2_with fail
  refine (l24Length_any _ _ _ _ T.out.1 (by omega)).mono ?_
  rintro e w2 ⟨a, b, rfl, S2, K2⟩
  have T := Lib.hid (SH.start (T.out.keep S2 K2) a b 25)
  clear S2 K2
  go_wp2_with fail
  refine (srcOne_any _ _ _ 10 _ T.out.1.1 (by omega) (by omega)).mono ?_
  rintro e w3 ⟨bb, rfl, S3, K3⟩
  have T := Lib.hid (T.out.keep S3 K3)
  clear S3 K3
  have HS := Lib.hid T.out.1.1
  have X5 : RF w2.heap.size a b w3.drew := ⟨T.out.2.1.1, T.out.2.1.2.1⟩
  have h2z : w.heap.size + 1 < w2.heap.size := T.out.2.2
  have hz3 := T.out.2.1.2.2.2
  have HTK : Hid (∀ (M : Nat) (W : World), Src (w.heap.size + 1) (w.heap.size + 1) M W → Keep (w.heap.size + 1) w3.drew W → SH M w w2.heap.size a b W) := fun M W hs k => (T.out.next (ext_drew (Below.refl _ _))).keep hs k
  have HKK : Hid (∀ W : World, Keep (w.heap.size + 1) w3.drew W → RF w2.heap.size a b W) := fun W k => ⟨((T.out.next (ext_drew (Below.refl _ _))).2.1.keep k (by omega)).1, ((T.out.next (ext_drew (Below.refl _ _))).2.1.keep k (by omega)).2.1⟩
  have HNE : Hid (∀ b o, some (⟨w3.heap.size, 0, none⟩ : Addr) = some ⟨b, o, none⟩ → b ≠ w.heap.size + 1) := fun b o e => by
    injection e with e
    injection e with e1 e2
    have e4 : w3.heap.size = b := e1
    omega
  have hka : Keep (w.heap.size + 1) w3.drew (w3.drew.alloc (.cells #[.int .i64 (-1), .int .i64 0, .int .i64 1, .int .i64 1000, .int .i64 1001] 2)) := Keep.of (ext1 _ _) (by show _ < w3.heap.size; omega)
  have HKA : Hid (Keep (w.heap.size + 1) w3.drew ((w3.alloc (.cells #[.int .i64 (-1), .int .i64 0, .int .i64 1, .int .i64 1000, .int .i64 1001] 2)).drew)) := hka
  have HAM : Hid (Calls Try.prog 107 #[.pointer (some ⟨w.heap.size + 1, 0, none⟩), .slice (some ⟨w3.heap.size, 0, none⟩) 5 5] ((w3.alloc (.cells #[.int .i64 (-1), .int .i64 0, .int .i64 1, .int .i64 1000, .int .i64 1001] 2)).drew) (fun e w' => ∃ x, x ∈ ([-1, 0, 1, 1000, 1001] : List Int) ∧ e = .returned (.int .i64 x) ∧ Src (w.heap.size + 1) (w.heap.size + 1) (0 + 20 + 2 + 2) w' ∧ Keep (w.heap.size + 1) ((w3.alloc (.cells #[.int .i64 (-1), .int .i64 0, .int .i64 1, .int .i64 1000, .int .i64 1001] 2)).drew) w')) :=
    srcAmong_any (w.heap.size + 1) (w.heap.size + 1) _ (some ⟨w3.heap.size, 0, none⟩) 5 [-1, 0, 1, 1000, 1001] _ ((HS.out.next (ext1 w3 _)).next (ext_drew (Below.refl _ _))) (by omega) (rd_lit w3 #[.int .i64 (-1), .int .i64 0, .int .i64 1, .int .i64 1000, .int .i64 1001] 2 _ rfl) HNE.out (by simp) (by simp)
  clear T
  cases bb
  · go_wp2_with fail
    go_region_held3 (fun w' => w'.cell? ⟨w2.heap.size, 0, none⟩ = some (.int .i64 a) ∧ w'.cell? ⟨w2.heap.size, 1, none⟩ = some (.int .i64 b))
      (first | exact X5 | exact HKK.out _ (by assumption) | exact RF.set (RF.set (HKK.out _ (by assumption)) (by omega)) (by omega))
      (first | (go_at_call 108; (with_reducible refine (srcPick_any (w.heap.size + 1) (w.heap.size + 1) _ 500 _ (HS.out.next (ext_drew (Below.refl _ _))) (by omega) (by omega)).mono ?_); rintro e w6 ⟨q, q1, q2, rfl, S6, K6⟩; obtain ⟨r0, r1, rf, rl⟩ := (HTK.out _ _ S6 K6).1.2.1; have rf0 := rf 0; have rf1 := rf 1; clear rf))
    obtain ⟨s0, s1⟩ := set_two r0 r1
    have HE6 := Lib.hid (fun x y => (HTK.out _ _ S6 K6).1.end_ x y)
    go_wp2
    refine bodyPost_ret ?_ rfl ⟨a, b, 1 + q, rfl, HE6.out _ _⟩
    have u1 : IntKind.i64.wrap (1 + q) = 1 + q := IntWalk.i64_in _ (by omega)
    simp [results, Try.results29, go_sem, s0, s1, u1]
  · go_wp2_with fail
    go_region_held3 (fun w' => w'.cell? ⟨w2.heap.size, 0, none⟩ = some (.int .i64 a) ∧ w'.cell? ⟨w2.heap.size, 1, none⟩ = some (.int .i64 b))
      (first | exact X5 | exact HKK.out _ HKA.out | exact HKK.out _ K7 | exact RF.set (RF.set (HKK.out _ K7) (by omega)) (by omega))
      (first | (go_at_call 107; (with_reducible refine HAM.out.mono ?_); rintro e w6 ⟨q, hq, rfl, S6, K6⟩; have K7 := HKA.out.trans K6; obtain ⟨r0, r1, rf, rl⟩ := (HTK.out _ _ S6 K7).1.2.1; have rf0 := rf 0; have rf1 := rf 1; clear rf))
    obtain ⟨s0, s1⟩ := set_two r0 r1
    have HE6 := Lib.hid (fun x y => (HTK.out _ _ S6 K7).1.end_ x y)
    go_wp2
    refine bodyPost_ret ?_ rfl ⟨a, b, q, rfl, HE6.out _ _⟩
    simp [results, Try.results29, go_sem, s0, s1]
end Go.Proofs.Ytdjnblkgeaphmaa
