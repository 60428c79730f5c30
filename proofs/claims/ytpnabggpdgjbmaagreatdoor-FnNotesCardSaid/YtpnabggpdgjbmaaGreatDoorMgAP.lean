/- Parts of the proof, merged: DrawLlW SinkW SpoilW. No condition but those that each theorem names. -/
import Derived.Test.YtpnabggpdgjbmaaGreatDoorMgAO
import Derived.Test.YtpnabggpdgjbmaaGreatDoorMgAL
import Derived.Deep.DeepMust
import Derived.Deep.RegionLaw
import Derived.Test.YtpnabggpdgjbmaaGreatDoorMgAB
import Derived.StillTail
import Derived.Deep.RegionHeld3
import Derived.Test.YtpnabggpdgjbmaaGreatDoorMgAE
namespace Go.Proofs.YtpnabggpdgjbmaaGreatDoor
open Go.RowKit Go.Sort
/-- A note of moderate size. -/
def ntSm (x : Nt) : Prop := x.name.size ≤ 10 ∧ x.terms.length ≤ 10
/-- What a draw of notes returns that need not be valid. -/
def RetLl (w0 : World) (g B N : Nat) (w : World) (e : Ending) (w' : World) : Prop := ∃ (rs : List NtR) (own : Nat → Nat) (h c : Nat), e = .returned (.slice (some ⟨h, 0, none⟩) rs.length c) ∧ rs.length ≤ 41 ∧ (∀ r ∈ rs, ntSm r.x) ∧
  OutNt w0 (w.heap.size + 1) rs own (.slice (some ⟨h, 0, none⟩) rs.length c) w' ∧ Src g B N w' ∧ Keep g w w'
/-- The state: notes, the source. -/
structure LsI (w0 : World) (g B N : Nat) (w : World) (rs : List NtR) (own : Nat → Nat) (v : Value) (W : World) : Prop where
  out : OutNt w0 (w.heap.size + 1) rs own v W
  src : Src g B N W
  keep : Keep g w W
  sm : ∀ r ∈ rs, ntSm r.x
section
variable {w0 : World} {g B N M : Nat} {w W W' : World} {rs : List NtR} {own : Nat → Nat} {v : Value}
theorem LsI.kept (t : LsI w0 g B N w rs own v W) (hs : Src g B M W') (k : Keep g W W') (h1 : g ≤ w.heap.size) (h2 : w0.heap.size ≤ g) : LsI w0 g B M w rs own v W' :=
  ⟨t.out.kept k (by omega) h2, hs, t.keep.trans k, t.sm⟩
theorem LsI.next (t : LsI w0 g B N w rs own v W) (hb : Below W.heap.size W W') : LsI w0 g B N w rs own v W' := ⟨t.out.next hb, t.src.next hb, t.keep.trans (Keep.of hb t.src.lt), t.sm⟩
theorem LsI.more (t : LsI w0 g B N w rs own v W) (h : N ≤ M) : LsI w0 g B M w rs own v W := ⟨t.out, t.src.more h, t.keep, t.sm⟩
/-- A new empty list. -/
theorem LsI.fresh (t : LsI w0 g B N w rs own v W) : LsI w0 g B N w [] (fun _ => 0) (.slice (some ⟨W.heap.size, 0, none⟩) 0 0) (W.alloc (.cells #[] 31)) := by
  have e1 := ext1 W (.cells #[] 31)
  have ho := OutNt.start0 W
  have h1 := t.out.hi
  have h2 := t.out.low
  exact ⟨⟨ho.row.mono h1, fun j r hr => by simp at hr, fun _ _ => rfl, ext_trans t.out.bel e1, h2, by simp; omega⟩, t.src.next e1, t.keep.trans (Keep.of e1 t.src.lt), fun r hr => by simp at hr⟩
/-- One more note. -/
theorem LsI.push (t : LsI w0 g B N w rs own v W) (h2 : w0.heap.size ≤ g) {W2 W2a w3 : World} (hk : Keep g W W2) (hs : Src g B M W2) {x : Nt} {T : Option Addr} {c : Nat} (hT : WrT W2 W.heap.size T c x.terms) (hb2a : Below W2.heap.size W2 W2a)
    {h cap : Nat} (hown3 : w3.ownsRow (w.heap.size + 1) 31 8 (.slice (some ⟨h, 0, none⟩) (rs.length + 1) cap) (rs.length + 1) (flatR rs ++ ntC x T c)) (hg : W2a.grownBy w3 v.ownBlock) (hat : v.ownBlock = some h ∨ h = W2a.heap.size) (hx : ntSm x) (hlt : g < w.heap.size) :
    ∃ own', LsI w0 g B M w (rs ++ [⟨x, T, c⟩]) own' (.slice (some ⟨h, 0, none⟩) (rs.length + 1) cap) w3 := by
  have hrow : ∀ k, v.ownBlock = some k → w.heap.size + 1 ≤ k := fun k e => (t.out.row.lt k e).1
  exact ⟨_, t.out.pushK hk (by omega) h2 hT hb2a hown3 hg hat, (hs.next hb2a).grown hg (fun k e => by have := hrow k e; omega),
    ((t.keep.trans hk).trans (Keep.of hb2a hs.lt)).grownK hg hlt (fun k e => by have := hrow k e; omega), fun r hr => by
    rcases List.mem_append.1 hr with hr | hr
    · exact t.sm r hr
    · simp only [List.mem_cons, List.not_mem_nil, or_false] at hr
      subst hr
      exact hx⟩
theorem LsI.ret {h n cap : Nat} (t : LsI w0 g B N w rs own (.slice (some ⟨h, 0, none⟩) n cap) W) (hM : N ≤ M) (hl : rs.length ≤ 41) : RetLl w0 g B M w (.returned (.slice (some ⟨h, 0, none⟩) n cap)) W := by
  have hn := own_n t.out.row
  subst hn
  exact ⟨rs, own, h, cap, rfl, hl, t.sm, t.out, t.src.more hM, t.keep⟩
/-- A note is set anew. -/
theorem LsI.set8 {h n cap : Nat} (t : LsI w0 g B N w rs own (.slice (some ⟨h, 0, none⟩) n cap) W) (h1 : g < w.heap.size) (h2 : w0.heap.size ≤ g) {W2 : World} (hk : Keep g W W2) (hs : Src g B M W2) {k : Nat} (hk2 : k < rs.length) {x : Nt} {T : Option Addr} {c : Nat} (hT : WrT W2 W.heap.size T c x.terms) (hx : ntSm x) :
    ∃ own', LsI w0 g B M w (rs.set k ⟨x, T, c⟩) own' (.slice (some ⟨h, 0, none⟩) n cap)
      ((((((((W2.setCell ⟨h, k * 8, none⟩ (.string x.name)).setCell ⟨h, k * 8 + 1, none⟩ (.int .i64 x.kind)).setCell ⟨h, k * 8 + 2, none⟩ (.int .i64 x.num)).setCell ⟨h, k * 8 + 3, none⟩ (.int .i64 x.den)).setCell ⟨h, k * 8 + 4, none⟩ (.slice T x.terms.length c)).setCell ⟨h, k * 8 + 5, none⟩ (.int .i64 x.sp)).setCell ⟨h, k * 8 + 6, none⟩ (.int .i64 x.sd)).setCell ⟨h, k * 8 + 7, none⟩ (.int .i64 x.sq)) := by
  have hg := (t.out.row.lt h rfl).1
  refine ⟨_, t.out.set8 hk (by omega) h2 (List.getElem?_eq_getElem hk2) hT, ?_, ?_, fun r hr => ?_⟩
  · iterate 8 (refine Src.setOther ?_ (by omega) _ _)
    exact hs
  · iterate 8 (refine Keep.setOther ?_ h1 (by omega) _ _)
    exact t.keep.trans hk
  · rcases List.mem_or_eq_of_mem_set hr with hr | hr
    · exact t.sm r hr
    · subst hr
      exact hx
end
theorem infoNtL : (Tryz.prog.info? 31).map (fun i => (i.zero, i.size, i.bytes)) = some (some (ntV ByteArray.empty 0 0 0 none 0 0 0 0 0), 8, 88) := by kernel_rfl
theorem rd_litB (W : World) (cs : Array Value) (T : TypeId) (xs : List Int) (h : cs.toList = xs.map (Value.int .u8)) : Rd (Value.int .u8) (W.alloc (.cells cs T)) (W.alloc (.cells cs T)).heap.size (some ⟨W.heap.size, 0, none⟩) xs := fun _ =>
  ⟨W.heap.size, 0, rfl, by simp, fun j x hx => by
    rw [Nat.zero_add, cell_one, ← Array.getElem?_toList, h, List.getElem?_map, hx]; rfl⟩
set_option maxRecDepth 100000 in
set_option maxHeartbeats 4000000 in
theorem l27List_any (w0 : World) (g B N : Nat) (w : World) (h : Src g B N w) (hN : N ≤ 300000) (hw0 : Below w0.heap.size w0 w) (hg0 : w0.heap.size ≤ g) :
    Calls Tryz.prog 31 #[.pointer (some ⟨g, 0, none⟩)] w (RetLl w0 g B (N + 600) w) := by
  obtain ⟨ti, hi, hz0, hz1, hz2⟩ := info_parts infoNtL
  have HI := Lib.hid hi
  have hg1 := h.lt
  have HD := Lib.hid (l27Draw_any w0 g B N w h (by omega) hw0 hg0)
  clear hi h hw0
  go_enter Tryz.func31, Tryz.ntmps31
  go_wp2_with fail
  refine HD.out.mono ?_
  rintro e w1 ⟨rs, own, h0, c0, rfl, _, hrl, hsm, O1, S1, K1⟩
  have T := Lib.hid (show LsI w0 g B (N + 400) w rs own (.slice (some ⟨h0, 0, none⟩) rs.length c0) w1 from ⟨O1, S1, K1, hsm⟩)
  clear O1 S1 K1 hsm HD
  go_wp2_with fail
  refine (srcOne_any g B _ 24 _ T.out.src (by omega) (by omega)).mono ?_
  rintro e w2 ⟨b1, rfl, S2, K2⟩
  have T := Lib.hid (T.out.kept S2 K2 (by omega) hg0)
  clear S2 K2
  cases b1
  · have hrl := Nat.le_trans hrl (show 6 ≤ 41 by omega)
    have T := Lib.hid (T.out.more (M := N + 410) (by omega))
    by_cases hz : ¬ 0 < rs.length
    · have hz0 : ¬ (0 : Int) < (rs.length : Int) := by omega
      go_wp2
      go_ret
      exact T.out.ret (by omega) hrl
    · have hz0 : (0 : Int) < (rs.length : Int) := by omega
      go_wp2_with fail
      refine (srcOne_any g B _ 10 _ T.out.src (by omega) (by omega)).mono ?_
      rintro e w5 ⟨b5, rfl, S5, K5⟩
      have T := Lib.hid (T.out.kept S5 K5 (by omega) hg0)
      clear S5 K5
      cases b5
      · go_wp2
        go_ret
        exact T.out.ret (by omega) hrl
      · go_wp2_with fail
        refine (srcPick_any g B _ rs.length _ T.out.src (by omega) (by omega)).mono ?_
        rintro e w6 ⟨a6, a61, a62, rfl, S6, K6⟩
        have T := Lib.hid (T.out.kept S6 K6 (by omega) hg0)
        clear S6 K6
        obtain ⟨k, rfl⟩ : ∃ k : Nat, a6 = (k : Int) := ⟨a6.toNat, by omega⟩
        have hk : k < rs.length := by omega
        go_wp2_with fail
        refine (l27Bent_any g B _ ⟨#[103, 111, 108, 100, 101, 110]⟩ _ T.out.src (by omega)).mono ?_
        rintro e w7 ⟨x, v7, rfl, hx1, hx2, hrow7, S7, K7⟩
        obtain ⟨T7, c7, rfl⟩ := own_slice hrow7
        obtain ⟨own', T8⟩ := T.out.set8 (by omega) hg0 K7 S7 hk ((own_wrT hrow7).more (by omega)) ⟨Nat.le_trans hx1 (by decide), hx2⟩
        have T8 := Lib.hid T8
        have i0 : (0 : Int) ≤ (k : Int) := by omega
        have i1 : (k : Int) < (rs.length : Int) := by omega
        have O7 := Lib.hid (T.out.kept S7 K7 (by omega) hg0).out.row
        clear hrow7 S7 K7
        have hc := fun m (hm : m < 8) => O7.out.cellAt (k * 8 + m) (by omega)
        have hfz := fun m => O7.out.frozenAt m
        have hgt : ∀ m, m < 8 → ∃ u, (flatR rs)[k * 8 + m]? = some u := fun m hm => ⟨_, List.getElem?_eq_getElem (by rw [flatR_length]; omega)⟩
        obtain ⟨y0, g0⟩ := hgt 0 (by omega)
        obtain ⟨y1, g1⟩ := hgt 1 (by omega)
        obtain ⟨y2, g2⟩ := hgt 2 (by omega)
        obtain ⟨y3, g3⟩ := hgt 3 (by omega)
        obtain ⟨y4, g4⟩ := hgt 4 (by omega)
        obtain ⟨y5, g5⟩ := hgt 5 (by omega)
        obtain ⟨y6, g6⟩ := hgt 6 (by omega)
        obtain ⟨y7, g7⟩ := hgt 7 (by omega)
        have u0 := (hc 0 (by omega)).trans g0
        have u1 := (hc 1 (by omega)).trans g1
        have u2 := (hc 2 (by omega)).trans g2
        have u3 := (hc 3 (by omega)).trans g3
        have u4 := (hc 4 (by omega)).trans g4
        have u5 := (hc 5 (by omega)).trans g5
        have u6 := (hc 6 (by omega)).trans g6
        have u7 := (hc 7 (by omega)).trans g7
        have f0 := hfz (k * 8)
        have f1 := hfz (k * 8 + 1)
        have f2 := hfz (k * 8 + 2)
        have f3 := hfz (k * 8 + 3)
        have f4 := hfz (k * 8 + 4)
        have f5 := hfz (k * 8 + 5)
        have f6 := hfz (k * 8 + 6)
        have f7 := hfz (k * 8 + 7)
        rw [Nat.add_zero] at u0
        clear hc hfz hgt g0 g1 g2 g3 g4 g5 g6 g7
        go_wp2
        go_ret
        exact T8.out.ret (by omega) (by simpa using hrl)
  · have T := Lib.hid T.out.fresh
    go_wp2_with fail
    generalize w2.alloc (.cells #[] 31) = W3 at *
    generalize w2.heap.size = h3 at *
    refine (srcPick_any g B _ 2 _ T.out.src (by omega) (by omega)).mono ?_
    rintro e w4 ⟨a, a1, a2, rfl, S4, K4⟩
    have T := Lib.hid (T.out.kept S4 K4 (by omega) hg0)
    clear S4 K4
    have hwa : IntKind.i64.wrap (40 + a) = 40 + a := IntWalk.i64_in _ (by omega)
    obtain ⟨K, hK⟩ : ∃ K : Nat, (K : Int) = 40 + a := ⟨(40 + a).toNat, by omega⟩
    have hKb : K ≤ 41 := by omega
    go_wp2_with fail
    go_loopw [3, 4, 5] (fun v t _ wr => ∃ (rs : List NtR) (own : Nat → Nat) (g0 cp : Nat), t = .int .i64 ((K : Int) - (rs.length : Int)) ∧ rs.length ≤ K ∧ v = .slice (some ⟨g0, 0, none⟩) rs.length cp ∧ Hid (LsI w0 g B (N + 410) w rs own (.slice (some ⟨g0, 0, none⟩) rs.length cp) wr)) (fun _ t _ _ => (intOf t).toNat)
    case atStart => exact ⟨[], _, _, _, by rw [hK]; simp, by simp, rfl, T.out.more (by omega)⟩
    case round =>
      obtain ⟨rs, own, g0, cp, rfl, hrK, rfl, T⟩ := hrel
      clear hK
      by_cases hjc : rs.length < K
      · have hp : 0 < (K : Int) - (rs.length : Int) := by omega
        obtain ⟨n, hn⟩ : ∃ n, rs.length = n := ⟨_, rfl⟩
        have HN := Lib.hid hn
        have hn41 : n ≤ 41 := by omega
        rw [hn] at hp hjc hrK T ⊢
        clear hn
        have q1 : IntKind.u8.wrap (97 + (n : Int) / 26) = 97 + (n : Int) / 26 := by simp [IntKind.wrap, IntKind.bits, IntKind.signed] <;> omega
        have q2 : IntKind.u8.wrap (97 + (n : Int) % 26) = 97 + (n : Int) % 26 := by simp [IntKind.wrap, IntKind.bits, IntKind.signed] <;> omega
        have q3 : IntKind.i64.wrap (97 + (n : Int) / 26) = 97 + (n : Int) / 26 := IntWalk.i64_in _ (by omega)
        have q4 : IntKind.i64.wrap (97 + (n : Int) % 26) = 97 + (n : Int) % 26 := IntWalk.i64_in _ (by omega)
        have hcv : (convert 22 9 (.slice (some ⟨wr.heap.size, 0, none⟩) 2 2)).run Tryz.prog (wr.alloc (.cells #[.int .u8 (97 + (n : Int) / 26), .int .u8 (97 + (n : Int) % 26)] 5)) = .ok (.string (byS [97 + (n : Int) / 26, 97 + (n : Int) % 26])) (wr.alloc (.cells #[.int .u8 (97 + (n : Int) / 26), .int .u8 (97 + (n : Int) % 26)] 5)) :=
          conv_bytes (c := 2) (rd_litB wr #[.int .u8 (97 + (n : Int) / 26), .int .u8 (97 + (n : Int) % 26)] 5 [97 + (n : Int) / 26, 97 + (n : Int) % 26] rfl) (fun x hx => by
            simp only [List.mem_cons, List.not_mem_nil, or_false] at hx
            rcases hx with rfl | rfl <;> omega) (by simp)
        have hsz : (byS [97 + (n : Int) / 26, 97 + (n : Int) % 26]).size = 2 := by simp [byS, ByteArray.size]
        generalize byS [97 + (n : Int) / 26, 97 + (n : Int) % 26] = nm at *
        have hszl : nm.size ≤ 2 := by omega
        clear hsz
        have hszn : (⟨#[110]⟩ ++ nm : ByteArray).size ≤ 10 := by
          rw [ByteArray.size_append]
          have : (⟨#[110]⟩ : ByteArray).size = 1 := rfl
          omega
        have HX : Hid (ntSm ⟨⟨#[110]⟩ ++ nm, 1, n, 1, [], 0, 0, 0⟩) := ⟨hszn, by simp⟩
        have e2 := ext_trans (ext1 wr (.cells #[.int .u8 (97 + (n : Int) / 26), .int .u8 (97 + (n : Int) % 26)] 5)) (ext1 (wr.alloc (.cells #[.int .u8 (97 + (n : Int) / 26), .int .u8 (97 + (n : Int) % 26)] 5)) (.cells #[] 2))
        have HE2 := Lib.hid e2
        have HK2 := Lib.hid (Keep.of e2 T.out.src.lt)
        have HS2 := Lib.hid (T.out.src.next e2)
        have hown := (T.out.next e2).out.row.alloc (.cells #[.string (⟨#[110]⟩ ++ nm), .int .i64 1, .int .i64 (n : Int), .int .i64 1, .slice (some ⟨wr.heap.size + 1, 0, none⟩) 0 0, .int .i64 0, .int .i64 0, .int .i64 0] 31)
        rw [HN.out] at hown
        have hhi := (T.out.next e2).out.hi
        have HT2 : Hid (WrT ((wr.alloc (.cells #[.int .u8 (97 + (n : Int) / 26), .int .u8 (97 + (n : Int) % 26)] 5)).alloc (.cells #[] 2)) wr.heap.size (some ⟨wr.heap.size + 1, 0, none⟩) 0 []) := ⟨fun h => absurd h (by simp), by simp, by unfold maxLen; omega⟩
        have hnews := news_rowN ((wr.alloc (.cells #[.int .u8 (97 + (n : Int) / 26), .int .u8 (97 + (n : Int) % 26)] 5)).alloc (.cells #[] 2)) (C := #[.string (⟨#[110]⟩ ++ nm), .int .i64 1, .int .i64 (n : Int), .int .i64 1, .slice (some ⟨wr.heap.size + 1, 0, none⟩) 0 0, .int .i64 0, .int .i64 0, .int .i64 0]) 31 (ntC ⟨⟨#[110]⟩ ++ nm, 1, n, 1, [], 0, 0, 0⟩ (some ⟨wr.heap.size + 1, 0, none⟩) 0) rfl
        simp only [World.size_alloc] at hnews hhi
        have HNW := Lib.hid hnews
        clear hnews e2
        go_wp2_with (at_builtin; go_must (refine wpList_append_lies _ rfl _ _ 24 rfl (w.heap.size + 1) 31 ti (ntV ByteArray.empty 0 0 0 none 0 0 0 0 0) 8 88 Tryz.underlying24 HI.out hz0 hz1 hz2 rfl (by decide) _ _ _ rfl hown ⟨wr.heap.size + 1 + 1, 0, none⟩ 1 1 (ntC ⟨⟨#[110]⟩ ++ nm, 1, n, 1, [], 0, 0, 0⟩ (some ⟨wr.heap.size + 1, 0, none⟩) 0) rfl rfl HNW.out ?c2 (by omega) ?c3 ?c4 ?c5 _ rfl ?_))
        case c2 => simp [ntC, Value.oneCell']
        case c3 => unfold maxLen; omega
        case c4 => omega
        case c5 => simp only [World.size_alloc]; omega
        intro g6 cap6 w6 hown3 hgrow hat hlt6
        obtain ⟨own6, T6⟩ := T.out.push (x := ⟨⟨#[110]⟩ ++ nm, 1, n, 1, [], 0, 0, 0⟩) (cap := cap6) hg0 HK2.out HS2.out HT2.out (ext1 _ _) (by rw [HN.out]; exact hown3) hgrow (by simpa only [World.size_alloc] using hat) HX.out hg1
        rw [HN.out] at T6
        have T6 := Lib.hid T6
        clear hown3 hgrow hat hlt6 hown T HT2 HX HNW HE2 HK2 HS2
        have hwk : IntKind.i64.wrap ((K : Int) - (n : Int) - 1) = (K : Int) - (n : Int) - 1 := IntWalk.i64_in _ (by omega)
        go_wp2
        go_roundw
        case rel => exact ⟨rs ++ [(⟨⟨⟨#[110]⟩ ++ nm, 1, n, 1, [], 0, 0, 0⟩, some ⟨wr.heap.size + 1, 0, none⟩, 0⟩ : NtR)], own6, g6, cap6, by simp [HN.out]; omega, by simp [HN.out]; omega, by simp [HN.out], by simpa [HN.out] using T6⟩
        case measure => simp [intOf]; omega
      · have hp : ¬ 0 < (K : Int) - (rs.length : Int) := by omega
        have hrl : rs.length ≤ 41 := by omega
        by_cases hz : ¬ 0 < rs.length
        · have hz0 : ¬ (0 : Int) < (rs.length : Int) := by omega
          go_wp2
          go_ret
          exact T.out.ret (by omega) hrl
        · have hz0 : (0 : Int) < (rs.length : Int) := by omega
          go_wp2_with fail
          refine (srcOne_any g B _ 10 _ T.out.src (by omega) (by omega)).mono ?_
          rintro e w5 ⟨b5, rfl, S5, K5⟩
          have T := Lib.hid (T.out.kept S5 K5 (by omega) hg0)
          clear S5 K5
          cases b5
          · go_wp2
            go_ret
            exact T.out.ret (by omega) hrl
          · go_wp2_with fail
            refine (srcPick_any g B _ rs.length _ T.out.src (by omega) (by omega)).mono ?_
            rintro e w6 ⟨a6, a61, a62, rfl, S6, K6⟩
            have T := Lib.hid (T.out.kept S6 K6 (by omega) hg0)
            clear S6 K6
            obtain ⟨k, rfl⟩ : ∃ k : Nat, a6 = (k : Int) := ⟨a6.toNat, by omega⟩
            have hk : k < rs.length := by omega
            go_wp2_with fail
            refine (l27Bent_any g B _ ⟨#[103, 111, 108, 100, 101, 110]⟩ _ T.out.src (by omega)).mono ?_
            rintro e w7 ⟨x, v7, rfl, hx1, hx2, hrow7, S7, K7⟩
            obtain ⟨T7, c7, rfl⟩ := own_slice hrow7
            obtain ⟨own', T8⟩ := T.out.set8 (by omega) hg0 K7 S7 hk ((own_wrT hrow7).more (by omega)) ⟨Nat.le_trans hx1 (by decide), hx2⟩
            have T8 := Lib.hid T8
            have i0 : (0 : Int) ≤ (k : Int) := by omega
            have i1 : (k : Int) < (rs.length : Int) := by omega
            have O7 := Lib.hid (T.out.kept S7 K7 (by omega) hg0).out.row
            clear hrow7 S7 K7
            have hc := fun m (hm : m < 8) => O7.out.cellAt (k * 8 + m) (by omega)
            have hfz := fun m => O7.out.frozenAt m
            have hgt : ∀ m, m < 8 → ∃ u, (flatR rs)[k * 8 + m]? = some u := fun m hm => ⟨_, List.getElem?_eq_getElem (by rw [flatR_length]; omega)⟩
            obtain ⟨y0, g0⟩ := hgt 0 (by omega)
            obtain ⟨y1, g1⟩ := hgt 1 (by omega)
            obtain ⟨y2, g2⟩ := hgt 2 (by omega)
            obtain ⟨y3, g3⟩ := hgt 3 (by omega)
            obtain ⟨y4, g4⟩ := hgt 4 (by omega)
            obtain ⟨y5, g5⟩ := hgt 5 (by omega)
            obtain ⟨y6, g6⟩ := hgt 6 (by omega)
            obtain ⟨y7, g7⟩ := hgt 7 (by omega)
            have u0 := (hc 0 (by omega)).trans g0
            have u1 := (hc 1 (by omega)).trans g1
            have u2 := (hc 2 (by omega)).trans g2
            have u3 := (hc 3 (by omega)).trans g3
            have u4 := (hc 4 (by omega)).trans g4
            have u5 := (hc 5 (by omega)).trans g5
            have u6 := (hc 6 (by omega)).trans g6
            have u7 := (hc 7 (by omega)).trans g7
            have f0 := hfz (k * 8)
            have f1 := hfz (k * 8 + 1)
            have f2 := hfz (k * 8 + 2)
            have f3 := hfz (k * 8 + 3)
            have f4 := hfz (k * 8 + 4)
            have f5 := hfz (k * 8 + 5)
            have f6 := hfz (k * 8 + 6)
            have f7 := hfz (k * 8 + 7)
            rw [Nat.add_zero] at u0
            clear hc hfz hgt g0 g1 g2 g3 g4 g5 g6 g7
            go_wp2
            go_ret
            exact T8.out.ret (by omega) (by simpa using hrl)
end Go.Proofs.YtpnabggpdgjbmaaGreatDoor
namespace Go.Proofs.YtpnabggpdgjbmaaGreatDoor
open Go.RowKit Go.Sort
/-- What the rest of a region must lead to: the last operations, one after the other. -/
def sinkQ (P : Program) (ops : Array Oper) (Q : Exit → Act → World → Prop) (tl : List Oper) : Exit → Act → World → Prop
  | .normal, a, w => wpList P ops Q tl a w
  | .exit i, a, w => Q (.exit i) a w
  | .goto l, a, w => Q (.goto l) a w
  | .ret, a, w => Q .ret a w
  | .panic c, a, w => Q (.panic c) a w
  | .outgrown, a, w => Q .outgrown a w
/-- All edges and guards lead back. -/
def backB (md : Region.Mode) (l : List Oper) (n : Nat) : Bool :=
  (List.range n).all fun j => match l[j]? with
    | some o => (o.after.all fun e => !Region.binds md e || decide (e.on < j)) && (match o.guard with | some (g, _) => decide (g < n) | none => true)
    | none => false
section
variable {P : Program} {md : Region.Mode} {l : List Oper} {n : Nat} {Q : Exit → Act → World → Prop}
theorem wpAny_more {ops : Array Oper} : ∀ (f : Nat) (listed : Array Bool) (a : Act) (w : World), wpAny P md ops Q f listed a w → wpAny P md ops Q (f + 1) listed a w
  | 0, listed, a, w, h => ⟨fun _ => h.2, fun i hi => by rw [h.1] at hi; cases hi⟩
  | f + 1, listed, a, w, h => ⟨h.1, fun i hi => wpOp_mono (fun a' w' h' => wpAny_more f _ a' w' h') (h.2 i hi)⟩
theorem wpAny_mores {ops : Array Oper} (g : Nat) (listed : Array Bool) (a : Act) (w : World) (h : wpAny P md ops Q g listed a w) : ∀ f, wpAny P md ops Q (f + g) listed a w
  | 0 => by rw [Nat.zero_add]; exact h
  | f + 1 => by rw [show f + 1 + g = (f + g) + 1 by omega]; exact wpAny_more _ _ _ _ (wpAny_mores g listed a w h f)
/-- What is listed of the whole region, and of its head. -/
structure SinkR (l : List Oper) (n : Nat) (listed listed' : Array Bool) : Prop where
  size' : listed'.size = n
  head : ∀ j, j < n → listed.getD j false = listed'.getD j false
theorem getD_bool {listed : Array Bool} {j : Nat} (hj : j < listed.size) : listed.getD j true = listed.getD j false := by simp [hj]
theorem backB_spec (hb : backB md l n = true) {j : Nat} (hj : j < n) : ∃ o, l[j]? = some o ∧ (∀ e ∈ o.after, Region.binds md e = true → e.on < j) ∧ ∀ g b, o.guard = some (g, b) → g < n := by
  have h := List.all_eq_true.1 hb j (List.mem_range.2 hj)
  cases ho : l[j]? with
  | none => rw [ho] at h; cases h
  | some o =>
    rw [ho] at h
    simp only [Bool.and_eq_true] at h
    refine ⟨o, rfl, fun e he hbe => ?_, fun g b hg => ?_⟩
    · have := Array.all_eq_true'.1 h.1 e he
      rw [hbe] at this
      simpa using this
    · have := h.2
      rw [hg] at this
      simpa using this
theorem head_at {j : Nat} (hj : j < n) : (l.take n).toArray[j]? = l.toArray[j]? := by simp [hj]
theorem sink_ready {listed listed' : Array Bool} (hb : backB md l n = true) (hn : n < l.length) (inv : HeadInv md l.toArray n listed) (r : SinkR l n listed listed') {i : Nat} (hi : i < n) :
    i ∈ Region.ready md l.toArray listed ↔ i ∈ Region.ready md (l.take n).toArray listed' := by
  obtain ⟨o, ho, he, _⟩ := backB_spec hb hi
  have hs : listed.size = l.length := by rw [inv.size]; simp
  have e1 : listed.getD i true = listed'.getD i true := by
    rw [getD_bool (by omega), getD_bool (by rw [r.size']; exact hi)]
    exact r.head i hi
  rw [mem_ready, mem_ready, e1, head_at hi]
  refine and_congr_right fun _ => ⟨fun ⟨o', ho', h⟩ => ⟨o', ho', fun e hem hbe => ?_⟩, fun ⟨o', ho', h⟩ => ⟨o', ho', fun e hem hbe => ?_⟩⟩
  · have eo : o' = o := by
      have : l.toArray[i]? = some o := by simpa using ho
      exact Option.some.inj (ho'.symm.trans this)
    subst eo
    have := he e hem hbe
    rw [← r.head _ (by omega)]
    exact h e hem hbe
  · have eo : o' = o := by
      have : l.toArray[i]? = some o := by simpa using ho
      exact Option.some.inj (ho'.symm.trans this)
    subst eo
    have := he e hem hbe
    rw [r.head _ (by omega)]
    exact h e hem hbe
theorem sink_all {listed' : Array Bool} (hb : backB md l n = true) (hs : listed'.size = n) (h : Region.ready md (l.take n).toArray listed' = []) : ∀ j, j < n → listed'.getD j false = true := by
  intro j
  induction j using Nat.strongRecOn with
  | _ j ih =>
    intro hj
    cases hl : listed'.getD j false with
    | true => rfl
    | false =>
      exfalso
      obtain ⟨o, ho, he, _⟩ := backB_spec hb hj
      have : j ∈ Region.ready md (l.take n).toArray listed' := mem_ready.2 ⟨by rw [getD_bool (by omega)]; exact hl, o, by rw [head_at hj]; simpa using ho, fun e hem hbe => ih _ (he e hem hbe) (by have := he e hem hbe; omega)⟩
      rw [h] at this
      cases this
theorem sink_wp {o : Oper} {a : Act} {w : World} {K K' : Act → World → Prop} {ops : Array Oper} {tl : List Oper} (hk : ∀ a w, K a w → K' a w) (h : o.wp P a w K (sinkQ P ops Q tl)) : o.wp P a w K' Q := by
  unfold Oper.wp at *
  generalize (execOp a.eval o).run P w = r at *
  cases r with
  | ok n w' =>
    cases n <;> simp only [Oper.upon] at h ⊢ <;>
      first
        | exact hk _ _ h
        | exact Calls.mono h (fun e w'' he => by cases e <;> first | exact hk _ _ he | exact he)
        | exact Rows.mono h (fun _ _ he => hk _ _ he)
  | halt x w' => cases x <;> simp only [Oper.upon] at h ⊢ <;> exact h
theorem sink_op {i : Nat} (hb : backB md l n = true) (hi : i < n) {tl : List Oper} {a : Act} {w : World} {K K' : Act → World → Prop} (hk : ∀ a w, K a w → K' a w)
    (h : wpOp P (l.take n).toArray (sinkQ P l.toArray Q tl) i K a w) : wpOp P l.toArray Q i K' a w := by
  obtain ⟨o, ho, _, hg⟩ := backB_spec hb hi
  have h1 : l.toArray[i]? = some o := by simpa using ho
  have h2 : (l.take n).toArray[i]? = some o := by rw [head_at hi]; exact h1
  unfold wpOp at *
  rw [h1]
  rw [h2] at h
  simp only at h ⊢
  have hw : Region.wanted o (yielded (l.take n).toArray a.tmps) = Region.wanted o (yielded l.toArray a.tmps) := by
    unfold Region.wanted
    cases hgu : o.guard with
    | none => rfl
    | some gw =>
      obtain ⟨g, b⟩ := gw
      have := hg g b hgu
      simp only
      unfold yielded
      rw [head_at this]
  rw [hw] at h
  split at h
  · rename_i hh
    rw [if_pos hh]
    rcases h with h | ⟨h3, h4⟩
    · exact .inl (sink_wp hk h)
    · exact .inr ⟨h3, h4⟩
  · rename_i hh
    rw [if_neg hh]
    exact hk _ _ h
theorem sink_any {g : Nat} (hb : backB md l n = true) (hn : n < l.length) (hs : Region.sinkB md l.toArray n = true) (hc : Region.chainB md l.toArray n = true) (hg : n + g = l.length)
    (hq : Region.seqB md l.toArray g n (Array.replicate n true ++ Array.replicate g false) = true) :
    ∀ (f : Nat) (listed listed' : Array Bool) (a : Act) (w : World), HeadInv md l.toArray n listed → SinkR l n listed listed' →
      wpAny P md (l.take n).toArray (sinkQ P l.toArray Q (l.drop n)) f listed' a w → wpAny P md l.toArray Q (f + g) listed a w := by
  have base : ∀ (f : Nat) (listed listed' : Array Bool) (a : Act) (w : World), HeadInv md l.toArray n listed → SinkR l n listed listed' → Region.ready md (l.take n).toArray listed' = [] →
      sinkQ P l.toArray Q (l.drop n) .normal a w → wpAny P md l.toArray Q (f + g) listed a w := by
    intro f listed listed' a w inv r hr h
    have hall := sink_all hb r.size' hr
    have hls : listed.size = n + g := by rw [inv.size]; simp; omega
    have el : listed = Array.replicate n true ++ Array.replicate g false := by
      apply Array.ext
      · simp [hls]
      · intro j h1 h2
        rcases Nat.lt_or_ge j n with hj | hj
        · have e1 := (r.head j hj).trans (hall j hj)
          rw [Array.getElem_append_left (by simpa using hj)]
          simpa [h1] using e1
        · have e1 := inv.tail j hj (by rw [← inv.size]; exact h1)
          rw [Array.getElem_append_right (by simpa using hj)]
          simpa [h1] using e1
    refine wpAny_mores g listed a w ?_ f
    rw [el]
    have hdl : (l.drop n).length = g := by simp; omega
    have := wpAny_of_seq (md := md) (Q' := Q) (ops := l.toArray) (P := P) (l.drop n) n (Array.replicate n true ++ Array.replicate g false) a w (fun j => by simp [List.getElem?_drop]) (by rw [hdl]; exact hq) h
    rwa [hdl] at this
  intro f
  induction f with
  | zero => intro listed listed' a w inv r h; exact base 0 listed listed' a w inv r h.1 h.2
  | succ f ih =>
    intro listed listed' a w inv r h
    cases hr : Region.ready md (l.take n).toArray listed' with
    | nil => exact base (f + 1) listed listed' a w inv r hr (h.1 hr)
    | cons i0 is =>
      have hi0 : i0 ∈ Region.ready md (l.take n).toArray listed' := by rw [hr]; exact List.mem_cons_self
      have hi0n : i0 < n := by
        obtain ⟨_, o, ho, _⟩ := mem_ready.1 hi0
        have := (Array.getElem?_eq_some_iff.1 ho).1
        simp at this
        omega
      have hi0' := (sink_ready hb hn inv r hi0n).2 hi0
      rw [show f + 1 + g = (f + g) + 1 by omega]
      refine ⟨fun h0 => (by rw [h0] at hi0'; cases hi0'), fun i hi => ?_⟩
      have hin : i < n := by
        rcases Nat.lt_or_ge i n with h' | h'
        · exact h'
        · exact absurd hi (tail_waits hs hc (by simpa using hn) inv _ i0 rfl hi0n (mem_ready.1 hi0').1 i h')
      refine sink_op hb hin (fun a' w' h' => ih (listed.setIfInBounds i true) (listed'.setIfInBounds i true) a' w' (inv.set hi hin) ⟨by simp [r.size'], fun j hj => ?_⟩ h') (h.2 i ((sink_ready hb hn inv r hin).1 hi))
      by_cases hij : i = j
      · subst hij
        have h1 : i < listed.size := by rw [inv.size]; simp; omega
        have h2 : i < listed'.size := by rw [r.size']; exact hj
        simp [h1, h2]
      · rw [getD_set_ne false hij, getD_set_ne false hij]
        exact r.head j hj
/-- **The last operations apart.** -/
theorem wp_region_sink {id : Nat} {a : Act} {w : World} (n : Nat) (hm : P.follows .mixedOrders = true)
    (hB : (backB .any l n && decide (n < l.length) && Region.sinkB .any l.toArray n && Region.chainB .any l.toArray n && Region.seqB .any l.toArray (l.length - n) n (Array.replicate n true ++ Array.replicate (l.length - n) false)) = true)
    (h : wpAny P .any (l.take n).toArray (sinkQ P l.toArray Q (l.drop n)) (l.take n).toArray.size (Array.replicate (l.take n).toArray.size false) a w.drew) : (Code.region id l.toArray true).wp P Q a w := by
  simp only [Bool.and_eq_true, decide_eq_true_eq] at hB
  obtain ⟨⟨⟨⟨hb, hn⟩, hs⟩, hc⟩, hq⟩ := hB
  have htl : (l.take n).toArray.size = n := by simp; omega
  refine wp_region_any hm ?_
  have inv0 : HeadInv .any l.toArray n (Array.replicate l.toArray.size false) :=
    ⟨by simp, fun j oj _ hl => (by rw [getD_replicate_false] at hl; cases hl), fun t _ ht => getD_in (by simpa using ht) (getD_replicate_false _ _)⟩
  rw [htl] at h
  have := sink_any (md := .any) (g := l.length - n) hb hn hs hc (by omega) hq n _ (Array.replicate n false) a _ inv0 ⟨by simp, fun j hj => by rw [getD_replicate_false, getD_replicate_false]⟩ h
  rwa [show n + (l.length - n) = l.toArray.size by simp; omega] at this
end
end Go.Proofs.YtpnabggpdgjbmaaGreatDoor
namespace Go.Proofs.YtpnabggpdgjbmaaGreatDoor
open Go.RowKit Go.Sort
/-- A draw of a text of some size. -/
def RetTx (g B N M : Nat) (w : World) (e : Ending) (w' : World) : Prop := ∃ t : ByteArray, e = .returned (.string t) ∧ t.size ≤ M ∧ Src g B N w' ∧ Keep g w w'
set_option linter.unusedSimpArgs false in
theorem l01Spoil_any (g B N : Nat) (s : ByteArray) (w : World) (h : Src g B N w) (hN : N ≤ 500000) (hs : s.size ≤ 900000) :
    Calls Tryz.prog 54 #[.pointer (some ⟨g, 0, none⟩), .string s] w (RetTx g B (N + 10) (s.size + 10) w) := by
  have HS := Lib.hid h
  clear h
  go_enter Tryz.func54, Tryz.ntmps54
  go_wp2_with fail
  refine (srcPick_any g B N 5 _ HS.out (by omega) (by omega)).mono ?_
  rintro e w1 ⟨x, x1, x2, rfl, S1, K1⟩
  have HS1 := Lib.hid S1
  have HK1 := Lib.hid K1
  clear S1 K1 HS
  obtain rfl | rfl | hx : x = 0 ∨ x = 1 ∨ 2 ≤ x := by omega
  · go_wp2_with fail
    refine (srcPick_any g B _ ((s.size : Int) + 1) _ HS1.out (by omega) (by omega)).mono ?_
    rintro e w2 ⟨a, a1, a2, rfl, S2, K2⟩
    obtain ⟨k, rfl⟩ : ∃ k : Nat, a = (k : Int) := ⟨a.toNat, by omega⟩
    have hk : k ≤ s.size := by omega
    have hl := S2.lt
    have HTX : Hid (Calls Tryz.prog 33 #[.pointer (some ⟨g, 0, none⟩), .slice (some ⟨w2.heap.size, 0, none⟩) 7 7] ((w2.alloc (.cells #[.string ⟨#[32]⟩, .string ⟨#[48]⟩, .string ⟨#[45]⟩, .string ⟨#[120]⟩, .string ⟨#[49]⟩, .string ⟨#[57]⟩, .string ⟨#[46]⟩] 9)).drew) (RetTx g B (N + 10) 1 w)) := by
      have e1 := ext1 w2 (.cells #[.string ⟨#[32]⟩, .string ⟨#[48]⟩, .string ⟨#[45]⟩, .string ⟨#[120]⟩, .string ⟨#[49]⟩, .string ⟨#[57]⟩, .string ⟨#[46]⟩] 9)
      have e3 := ext_trans e1 (ext_drew (Below.refl _ _))
      refine (srcText_any g B _ (some ⟨w2.heap.size, 0, none⟩) 7 [⟨#[32]⟩, ⟨#[48]⟩, ⟨#[45]⟩, ⟨#[120]⟩, ⟨#[49]⟩, ⟨#[57]⟩, ⟨#[46]⟩] _ (S2.next e3) (by omega) (rd_litS w2 #[.string ⟨#[32]⟩, .string ⟨#[48]⟩, .string ⟨#[45]⟩, .string ⟨#[120]⟩, .string ⟨#[49]⟩, .string ⟨#[57]⟩, .string ⟨#[46]⟩] 9 _ rfl) (fun b o e => by injection e with e; injection e with e; omega) (by simp) (by simp)).mono ?_
      rintro e w3 ⟨t, ht, rfl, S3, K3⟩
      refine ⟨t, rfl, ?_, S3.more (by omega), (HK1.out.trans K2).trans ((Keep.of e3 S2.lt).trans K3)⟩
      have : ∀ t ∈ ([⟨#[32]⟩, ⟨#[48]⟩, ⟨#[45]⟩, ⟨#[120]⟩, ⟨#[49]⟩, ⟨#[57]⟩, ⟨#[46]⟩] : List ByteArray), t.size ≤ 1 := by decide
      exact this t ht
    clear S2 K2 HS1 HK1
    have i0 : (0 : Int) ≤ (k : Int) := by omega
    have i1 : (k : Int) ≤ (s.size : Int) := by omega
    go_wp2_with fail
    unfold RetTx at HTX
    refine wp_region_sink 10 (by kernel_rfl) (by kernel_rfl) ?_
    refine wpAny_of_held (S := fun _ : World => True) _ _ _ _ ?_
    change wpAnyH _ _ _ _ _ 10 (Array.replicate 10 false) _ _
    (try simp only [List.take_succ_cons, List.take_zero, List.drop_succ_cons, List.drop_zero])
    have hHeld : True := trivial
    refine wpAnyH_take (i := 0) (oi := _) (v := ?_) rfl (by kernel_rfl) (by kernel_rfl) (by kernel_rfl) (fun _ _ _ h => h) (Or.inl ⟨by rfl, ?_⟩) hHeld ?_
    rotate_left 1
    · intro w hSw
      (try dsimp only at hSw)
      skip
      go_simp <;> with_reducible rfl
    (try simp only [Act.put, List.setIfInBounds_toArray, List.set_cons_zero, List.set_cons_succ])
    refine wpAnyH_take (i := 1) (oi := _) (v := ?_) rfl (by kernel_rfl) (by kernel_rfl) (by kernel_rfl) (fun _ _ _ h => h) (Or.inl ⟨by rfl, ?_⟩) hHeld ?_
    rotate_left 1
    · intro w hSw
      (try dsimp only at hSw)
      skip
      go_simp <;> with_reducible rfl
    (try simp only [Act.put, List.setIfInBounds_toArray, List.set_cons_zero, List.set_cons_succ])
    refine wpAnyH_take (i := 2) (oi := _) (v := ?_) rfl (by kernel_rfl) (by kernel_rfl) (by kernel_rfl) (fun _ _ _ h => h) (Or.inl ⟨by rfl, ?_⟩) hHeld ?_
    rotate_left 1
    · intro w hSw
      (try dsimp only at hSw)
      skip
      go_simp <;> with_reducible rfl
    (try simp only [Act.put, List.setIfInBounds_toArray, List.set_cons_zero, List.set_cons_succ])
    refine wpAnyH_take (i := 3) (oi := _) (v := ?_) rfl (by kernel_rfl) (by kernel_rfl) (by kernel_rfl) (fun _ _ _ h => h) (Or.inl ⟨by rfl, ?_⟩) hHeld ?_
    rotate_left 1
    · intro w hSw
      (try dsimp only at hSw)
      skip
      go_simp <;> with_reducible rfl
    (try simp only [Act.put, List.setIfInBounds_toArray, List.set_cons_zero, List.set_cons_succ])
    refine wpAnyH_take (i := 7) (oi := _) (v := ?_) rfl (by kernel_rfl) (by kernel_rfl) (by kernel_rfl) (fun _ _ _ h => h) (Or.inl ⟨by rfl, ?_⟩) hHeld ?_
    rotate_left 1
    · intro w hSw
      (try dsimp only at hSw)
      skip
      go_simp <;> with_reducible rfl
    (try simp only [Act.put, List.setIfInBounds_toArray, List.set_cons_zero, List.set_cons_succ])
    refine wpAnyH_take (i := 8) (oi := _) (v := ?_) rfl (by kernel_rfl) (by kernel_rfl) (by kernel_rfl) (fun _ _ _ h => h) (Or.inl ⟨by rfl, ?_⟩) hHeld ?_
    rotate_left 1
    · intro w hSw
      (try dsimp only at hSw)
      skip
      go_simp <;> with_reducible rfl
    (try simp only [Act.put, List.setIfInBounds_toArray, List.set_cons_zero, List.set_cons_succ])
    refine wpAnyH_take (i := 9) (oi := _) (v := ?_) rfl (by kernel_rfl) (by kernel_rfl) (by kernel_rfl) (fun _ _ _ h => h) (Or.inl ⟨by rfl, ?_⟩) hHeld ?_
    rotate_left 1
    · intro w hSw
      (try dsimp only at hSw)
      skip
      go_simp <;> with_reducible rfl
    (try simp only [Act.put, List.setIfInBounds_toArray, List.set_cons_zero, List.set_cons_succ])
    refine wpAnyH_ready (rs := [4]) (by kernel_rfl) (by simp) ?_
    refine AllReadyH.cons (o := _) rfl (fun K hK => ?_) AllReadyH.nil
    go_simp
    refine hK.out _ _ ?_ (fun hHeld => ?_)
    · (try dsimp only)
      skip
    clear hK K
    (try simp only [Act.put, List.setIfInBounds_toArray, List.set_cons_zero, List.set_cons_succ])
    refine wpAnyH_ready (rs := [5]) (by kernel_rfl) (by simp) ?_
    refine AllReadyH.cons (o := _) rfl (fun K hK => ?_) AllReadyH.nil
    go_simp
    refine HTX.out.mono ?_
    rintro e w6 ⟨t, rfl, ht, S6, K6⟩
    go_wp2_with fail
    refine hK.out _ _ trivial (fun hHeld => ?_)
    clear hK K
    (try simp only [Act.put, List.setIfInBounds_toArray, List.set_cons_zero, List.set_cons_succ])
    refine wpAnyH_ready (rs := [6]) (by kernel_rfl) (by simp) ?_
    refine AllReadyH.cons (o := _) rfl (fun K hK => ?_) AllReadyH.nil
    go_simp
    go_wp2_with fail
    refine hK.out _ _ trivial (fun hHeld => ?_)
    clear hK K
    (try simp only [Act.put, List.setIfInBounds_toArray, List.set_cons_zero, List.set_cons_succ])
    refine wpAnyH_done (by kernel_rfl) ?_ _
    change wpList _ _ _ _ _ _
    have HS6 := Lib.hid S6
    have HK6 := Lib.hid K6
    go_wp2
    go_ret
    exact ⟨_, rfl, by simp; omega, HS6.out, HK6.out⟩
  · by_cases h0 : s.size = 0
    · have hs0 : (s.toList == ([] : List UInt8)) = true := by
        have : s.toList = [] := by rw [ByteArray.toList_eq]; exact List.eq_nil_of_length_eq_zero (by rw [Array.length_toList]; exact h0)
        rw [this]; rfl
      go_wp2
      go_ret
      exact ⟨s, rfl, by omega, HS1.out.more (by omega), HK1.out⟩
    · have hs0 : (s.toList == ([] : List UInt8)) = false := by
        rw [beq_eq_false_iff_ne]
        intro h
        apply h0
        rw [ByteArray.toList_eq] at h
        have := congrArg List.length h
        rw [Array.length_toList] at this
        exact this
      go_wp2_with fail
      refine (srcPick_any g B _ (s.size : Int) _ HS1.out (by omega) (by omega)).mono ?_
      rintro e w2 ⟨a, a1, a2, rfl, S2, K2⟩
      obtain ⟨k, rfl⟩ : ∃ k : Nat, a = (k : Int) := ⟨a.toNat, by omega⟩
      have hk : k < s.size := by omega
      have HS2 := Lib.hid (S2.more (M := N + 10) (by omega))
      have HK2 := Lib.hid (HK1.out.trans K2)
      clear S2 K2 HS1 HK1
      have i0 : (0 : Int) ≤ (k : Int) := by omega
      have i1 : (k : Int) ≤ (s.size : Int) := by omega
      have i2 : (0 : Int) ≤ (k : Int) + 1 := by omega
      have i3 : (k : Int) + 1 ≤ (s.size : Int) := by omega
      have i4 : IntKind.i64.wrap ((k : Int) + 1) = (k : Int) + 1 := IntWalk.i64_in _ (by omega)
      go_wp2_with fail
      refine wp_region_quiet_below (by kernel_rfl) (by kernel_rfl) ?_
      repeat (first | go_big_quiet_step (fail) | quiet_step (fail))
      refine wpQuiet_nil ?_
      intro _ hw'
      obtain ⟨⟨dq, oq⟩, hw''⟩ := hw'
      subst hw''
      obtain ⟨w3, hW3⟩ : ∃ Wq, Wq = grow (redrawn w2 dq) oq := ⟨_, rfl⟩
      have hb3 : Below w2.heap.size w2 w3 := by rw [hW3]; exact below_regrown _ _ _
      rw [← hW3]
      clear hW3
      obtain ⟨hc3, hf3⟩ := bcell hb3
      have hy3 := hb3.size
      have HS3 := Lib.hid (HS2.out.next hb3)
      have HK3 := Lib.hid (HK2.out.trans (Keep.of hb3 HS2.out.lt))
      clear hb3
      go_wp2
      go_ret
      exact ⟨_, rfl, by simp; omega, HS3.out, HK3.out⟩
  · have n0 : (x == 0) = false := by simp; omega
    have n1 : (x == 1) = false := by simp; omega
    go_wp2
    go_ret
    exact ⟨s, rfl, by omega, HS1.out.more (by omega), HK1.out⟩
end Go.Proofs.YtpnabggpdgjbmaaGreatDoor
