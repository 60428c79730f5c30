/- Parts of the proof, merged: InsNtW DelNtW NnW NnS. No condition but those that each theorem names. -/
import Derived.Test.YtpnabggpdgjbmaaGreatDoorMgAW
import Derived.Test.YtpnabggpdgjbmaaGreatDoorMgAV
import Derived.Test.YtpnabggpdgjbmaaGreatDoorMgAQ
namespace Go.Proofs.YtpnabggpdgjbmaaGreatDoor
open Go.RowKit Go.Sort
/-- What slices.Insert returns. -/
def InsQ (base : Nat) (rs : List NtR) (r : NtR) (i : Nat) (v : Value) (W : World) (e : Ending) (w' : World) : Prop := ∃ g cap, e = .returned (.slice (some ⟨g, 0, none⟩) (rs.length + 1) cap) ∧
  w'.ownsRow base 31 8 (.slice (some ⟨g, 0, none⟩) (rs.length + 1) cap) (rs.length + 1) (flatR (rs.take i ++ [r] ++ rs.drop i)) ∧ W.grownBy w' v.ownBlock ∧ (v.ownBlock = some g ∨ g = W.heap.size)
theorem news_box {W : World} {vb : Nat} {cs : List Value} {T : TypeId} (h : W.heap[vb]? = some (.cells cs.toArray T (0, 0))) : ∀ j u, cs[j]? = some u → W.cell? ((⟨vb, 0, none⟩ : Addr).add j) = some u := fun j u hu => World.news_of_block h j u (by simpa using hu)
theorem sizeNt : (Tryz.prog.info? 31).map (·.size) = some 8 := by
  obtain ⟨ti, hi, hz0, hz1, hz2⟩ := info_parts infoNtR
  rw [hi]; simp [hz1]
set_option maxRecDepth 100000 in
set_option maxHeartbeats 1000000 in
theorem insert_end (base vb : Nat) (rs : List NtR) (r : NtR) (v : Value) (W : World) (hown : W.ownsRow base 31 8 v rs.length (flatR rs)) (hl : rs.length ≤ 1048576) (hvb : W.heap[vb]? = some (.cells r.cells.toArray 31 (0, 0))) (hbase : base ≤ W.heap.size) :
    Calls Tryz.prog 36 #[v, .int .i64 rs.length, .slice (some ⟨vb, 0, none⟩) 1 1] W (InsQ base rs r rs.length v W) := by
  obtain ⟨ti, hi, hz0, hz1, hz2⟩ := info_parts infoNtR
  have HI := Lib.hid hi
  have HNW := Lib.hid (news_box hvb)
  have HE : Hid (flatR (rs.take rs.length ++ [r] ++ rs.drop rs.length) = flatR rs ++ r.cells) := by unfold Hid; rw [List.take_length, List.drop_length, List.append_nil, flatR_append, flatR_one]
  have H1 : Hid (∀ u ∈ r.cells, u.oneCell' = true) := fun u hu => flatR_one8 [r] u (by rw [flatR_one]; exact hu)
  have HO := Lib.hid hown
  unfold InsQ
  rcases hown.2 with ⟨rfl, h0⟩ | ⟨g, cap, cur, rfl, hbg, hg, hnc, hcm, hcs, htake⟩
  · have h0' : rs = [] := List.eq_nil_of_length_eq_zero h0
    subst h0'
    clear hown hi hvb h0
    simp only [List.length_nil] at HO ⊢
    go_enter Tryz.func36, Tryz.ntmps36
    go_wp2_with (at_builtin; go_must (refine wpList_append_lies _ rfl _ _ 24 rfl base 31 ti (ntV ByteArray.empty 0 0 0 none 0 0 0 0 0) 8 88 Tryz.underlying24 HI.out hz0 hz1 hz2 rfl (by decide) _ _ _ rfl HO.out ⟨vb, 0, none⟩ 1 1 r.cells rfl rfl HNW.out H1.out (by omega) ?c1 ?c2 hbase _ rfl ?_))
    case c1 => unfold maxLen; omega
    case c2 => omega
    intro g6 cap6 w6 hown6 hgrow hat _
    go_wp2
    go_ret
    exact ⟨g6, cap6, rfl, by simpa [flatR] using hown6, hgrow, hat⟩
  · have hcm' : cap ≤ 9223372036854775807 := by unfold maxLen at hcm; omega
    clear hown hi hvb hg hcs htake hcm
    generalize rs.length = n at *
    by_cases hq : cap = n
    · subst hq
      go_enter Tryz.func36, Tryz.ntmps36
      go_wp2_with (at_builtin; go_must (refine wpList_append_lies _ rfl _ _ 24 rfl base 31 ti (ntV ByteArray.empty 0 0 0 none 0 0 0 0 0) 8 88 Tryz.underlying24 HI.out hz0 hz1 hz2 rfl (by decide) _ _ _ rfl HO.out ⟨vb, 0, none⟩ 1 1 r.cells rfl rfl HNW.out H1.out (by omega) ?d1 ?d2 hbase _ rfl ?_))
      case d1 => unfold maxLen; omega
      case d2 => omega
      intro g6 cap6 w6 hown6 hgrow hat _
      go_wp2
      go_ret
      exact ⟨g6, cap6, rfl, by rw [HE.out]; exact hown6, hgrow, hat⟩
    · skip
      go_enter Tryz.func36, Tryz.ntmps36
      go_wp2_with (at_builtin; go_must (refine wpList_append_lies _ rfl _ _ 24 rfl base 31 ti (ntV ByteArray.empty 0 0 0 none 0 0 0 0 0) 8 88 Tryz.underlying24 HI.out hz0 hz1 hz2 rfl (by decide) _ _ _ rfl HO.out ⟨vb, 0, none⟩ 1 1 r.cells rfl rfl HNW.out H1.out (by omega) ?f1 ?f2 hbase _ rfl ?_))
      case f1 => unfold maxLen; omega
      case f2 => omega
      intro g6 cap6 w6 hown6 hgrow hat _
      go_wp2
      go_ret
      exact ⟨g6, cap6, rfl, by rw [HE.out]; exact hown6, hgrow, hat⟩
set_option maxRecDepth 100000 in
set_option maxHeartbeats 1000000 in
theorem insert_room (base vb g n cap i : Nat) (rs : List NtR) (r : NtR) (W : World) (cur : Array Value) (hg : W.heap[g]? = some (.cells cur 31 (0, 0))) (hcs : cur.size = cap * 8) (htake : cur.toList.take (n * 8) = flatR rs) (hbg : base ≤ g)
    (hn : rs.length = n) (hl : n ≤ 1048576) (hin : i < n) (hroom : n + 1 ≤ cap) (hcm : cap ≤ maxLen) (hvb : W.heap[vb]? = some (.cells r.cells.toArray 31 (0, 0))) (hne : vb ≠ g) :
    Calls Tryz.prog 36 #[.slice (some ⟨g, 0, none⟩) n cap, .int .i64 i, .slice (some ⟨vb, 0, none⟩) 1 1] W (InsQ base rs r i (.slice (some ⟨g, 0, none⟩) n cap) W) := by
  have hc63 : cap ≤ 9223372036854775807 := by unfold maxLen at hcm; omega
  have HCM := Lib.hid hcm
  have HNW := Lib.hid (news_box hvb)
  have H1 : Hid (∀ u ∈ r.cells, u.oneCell' = true) := fun u hu => flatR_one8 [r] u (by rw [flatR_one]; exact hu)
  have HD1 : Hid (∀ u ∈ flatR (rs.drop i), u.oneCell' = true) := flatR_one8 _
  obtain ⟨C, hC⟩ : ∃ C, C = cur.toList := ⟨_, rfl⟩
  have hcur : cur = C.toArray := by rw [hC]
  subst hcur
  have hCl : C.length = cap * 8 := by simpa using hcs
  have hdl : (flatR (rs.drop i)).length = (n - i) * 8 := by rw [flatR_length, List.length_drop, hn]
  have hpl : (flatR (rs.take i)).length = i * 8 := by rw [flatR_length, List.length_take]; omega
  have hsp : C = flatR (rs.take i) ++ flatR (rs.drop i) ++ C.drop (n * 8) := by
    rw [← flatR_append, List.take_append_drop, ← htake]
    simp
  have hrl : 8 ≤ (C.drop (n * 8)).length := by rw [List.length_drop, hCl]; omega
  have hfin : splice (splice C ((i + 1) * 8) (flatR (rs.drop i))) (i * 8) r.cells = flatR (rs.take i ++ [r] ++ rs.drop i) ++ (C.drop (n * 8)).drop 8 := by
    have h := splice_room (flatR (rs.take i)) (flatR (rs.drop i)) (C.drop (n * 8)) r.cells rfl hrl
    rw [← hsp, hpl] at h
    rw [flatR_append, flatR_append, flatR_one, ← h, Nat.add_mul, Nat.one_mul]
  have HF := Lib.hid hfin
  have HCL := Lib.hid hCl
  have HDL := Lib.hid hdl
  have HRL := Lib.hid hrl
  have HN := Lib.hid hn
  have hcell : ∀ (W' : World) (X : List Value), W'.heap[g]? = some (.cells X.toArray 31 (0, 0)) → ∀ j u, X[j]? = some u → W'.cell? ⟨g, j, none⟩ = some u := fun W' X hX j u hu => by
    have := news_box hX j u hu
    rwa [Addr.add_lit, Nat.zero_add] at this
  have hsrc : ∀ j u, (flatR (rs.drop i))[j]? = some u → W.drew.cell? ((⟨g, i * 8, none⟩ : Addr).add j) = some u := fun j u hu => by
    rw [Addr.add_lit]
    refine hcell W.drew C hg _ _ ?_
    rw [hsp, List.append_assoc, List.getElem?_append_right (by omega), hpl, show i * 8 + j - i * 8 = j by omega, List.getElem?_append_left (List.getElem?_eq_some_iff.1 hu).1]
    exact hu
  have HSRC := Lib.hid hsrc
  have hG : Hid (W.drew.heap[g]? = some (.cells C.toArray 31 (0, 0))) := hg
  have hfit1 : Hid ((i + 1) * 8 + (flatR (rs.drop i)).length ≤ C.length) := by unfold Hid; rw [hdl, hCl]; omega
  have hsl : Hid ((splice C ((i + 1) * 8) (flatR (rs.drop i))).length = cap * 8) := by unfold Hid; rw [length_splice _ _ _ hfit1.out, hCl]
  have hov : ∀ lb cb, (callFunc 82 #[.slice (some ⟨vb, 0, none⟩) 1 1, .slice (some ⟨g, (i + 1) * 8, none⟩) lb cb]).run Tryz.prog W = .ok (.value (.bool false)) W := fun lb cb => by
    rw [run_callFunc_extern Tryz.func82 (by kernel_rfl) (by kernel_rfl) (by kernel_rfl) (e := Extern.SlicesOverlaps.overlaps #[24, 24] #[4]) (by kernel_rfl),
      Lib.run_overlaps_apart W 24 4 31 Tryz.underlying24 8 (fun w => by
        obtain ⟨ti, hi, hz0, hz1, hz2⟩ := info_parts infoNtR
        simp [sizeOf, typeInfo, hi, hz1]) ⟨vb, 0, none⟩ ⟨g, (i + 1) * 8, none⟩ 1 1 lb cb hne 31 31 8 (cap * 8) (by simp [World.shape?, hvb, NtR.cells, ntC]) (by simp [World.shape?, hg, hCl]) (by omega) (by simp [World.frozen?, hvb]) (by simp [World.frozen?, hvb])]
    rfl
  unfold InsQ
  have hz1 : ¬ ((i : Int) = (n : Int)) := by omega
  have hz3 : ¬ ((cap : Int) < (n : Int) + 1) := by omega
  have hci : ¬ cap = i := by omega
  have hci1 : ¬ cap = i + 1 := by omega
  have hw1 : IntKind.i64.wrap ((i : Int) + 1) = (i : Int) + 1 := by rw [IntKind.wrap_i64]; omega
  have hb1 : (0 : Int) ≤ (i : Int) + 1 := by omega
  have htn : ((i : Int) + 1).toNat = i + 1 := by omega
  have hin2 : i ≤ n := by omega
  have hb3 : (i : Int) ≤ (n : Int) + 1 := by omega
  have hb5 : (i : Int) + 1 ≤ (n : Int) + 1 := by omega
  have hb4 : n + 1 ≤ cap := hroom
  clear hsrc hcell hfin hCl hdl hpl hrl hsp hg hcs htake hC hvb hn hcm
  go_enter Tryz.func36, Tryz.ntmps36
  go_wp2_with (simp only [hov])
  go_region_law (refine step_copy_row rfl _ _ 24 24 rfl 31 8 Tryz.underlying24 sizeNt g ((i + 1) * 8) (n - i) (cap - (i + 1)) ⟨g, i * 8, none⟩ (n + 1 - i) (cap - i) (by simp [Act.eval, Act.put]) (by simp [Act.eval, Act.put]) C _ hG.out (flatR (rs.drop i)) (by rw [HDL.out]; congr 1; simp only [Nat.min_def]; split <;> omega) HSRC.out hfit1.out HD1.out ?_; intro w1 HG1 hg1)
  go_wp2_with (with_reducible refine list_copy_row rfl (.tmp 80) (.tmp 81) 24 24 rfl 31 8 Tryz.underlying24 sizeNt g (i * 8) (n + 1 - i) (cap - i) ⟨vb, 0, none⟩ 1 1 rfl rfl (splice C ((i + 1) * 8) (flatR (rs.drop i))) _ HG1.out r.cells ?c1 ?c2 ?c3 H1.out ?_)
  case c1 => show 8 = _; simp only [Nat.min_def]; split <;> omega
  case c2 =>
    intro j u hu
    refine (World.cell?_of_block (a := (⟨vb, 0, none⟩ : Addr).add j) ?_).trans (HNW.out j u hu)
    rw [Addr.add_lit]
    exact hg1.block vb (block_lt_of_cell (HNW.out 0 _ rfl)) (fun e => hne (by injection e))
  case c3 => rw [hsl.out]; show i * 8 + 8 ≤ _; omega
  intro w2 HG2 hg2
  go_wp2
  go_ret
  have hln := HN.out
  have hll : (flatR (rs.take i ++ [r] ++ rs.drop i)).length = (n + 1) * 8 := by rw [flatR_length]; simp only [List.length_append, List.length_take, List.length_drop, List.length_cons, List.length_nil]; omega
  have hg0 : W.grownBy w1 (some g) := ⟨hg1.os, hg1.tape, hg1.output, hg1.size, hg1.block⟩
  rw [hln]
  refine ⟨g, cap, rfl, ⟨hll, .inr ⟨g, cap, _, rfl, hbg, HG2.out, hb4, HCM.out, ?_, ?_⟩⟩, grownBy_trans2 hg0 hg2 (fun k e => .inl e), .inl rfl⟩
  · rw [List.size_toArray, length_splice _ _ _ (by rw [hsl.out]; show i * 8 + 8 ≤ _; omega), hsl.out]
  · rw [HF.out, List.take_left' hll]
set_option maxRecDepth 100000 in
set_option maxHeartbeats 1000000 in
theorem insert_grow (base vb g n cap i : Nat) (rs : List NtR) (r : NtR) (W : World) (hown : W.ownsRow base 31 8 (.slice (some ⟨g, 0, none⟩) n cap) n (flatR rs)) (hbase : base ≤ W.heap.size)
    (hn : rs.length = n) (hl : n ≤ 1048576) (hin : i < n) (hroom : cap < n + 1) (hvb : W.heap[vb]? = some (.cells r.cells.toArray 31 (0, 0))) :
    Calls Tryz.prog 36 #[.slice (some ⟨g, 0, none⟩) n cap, .int .i64 i, .slice (some ⟨vb, 0, none⟩) 1 1] W (InsQ base rs r i (.slice (some ⟨g, 0, none⟩) n cap) W) := by
  obtain ⟨ti, hi, hz0, hz1, hz2⟩ := info_parts infoNtR
  have HI := Lib.hid hi
  have hnc : n ≤ cap := by
    rcases hown.2 with ⟨h0, _⟩ | ⟨g', cap', cur, hv, _, _, h2, _⟩
    · cases h0
    · cases hv; exact h2
  have hgl : g < W.heap.size := (hown.lt g rfl).2
  have HNW := Lib.hid (news_box hvb)
  have H1 : Hid (∀ u ∈ r.cells, u.oneCell' = true) := fun u hu => flatR_one8 [r] u (by rw [flatR_one]; exact hu)
  have HD1 : Hid (∀ u ∈ flatR (rs.drop i), u.oneCell' = true) := flatR_one8 _
  have hdl : (flatR (rs.drop i)).length = (n - i) * 8 := by rw [flatR_length, List.length_drop, hn]
  have hpl : (flatR (rs.take i)).length = i * 8 := by rw [flatR_length, List.length_take]; omega
  have hold : ∀ j u, (flatR (rs.take i))[j]? = some u → W.cell? ((⟨g, 0, none⟩ : Addr).add j) = some u := fun j u hu => by
    rw [← flatR_take, List.getElem?_take] at hu
    split at hu
    · exact hown.cells (g := g) rfl j u hu
    · cases hu
  have hsrc : ∀ j u, (flatR (rs.drop i))[j]? = some u → W.cell? ((⟨g, i * 8, none⟩ : Addr).add j) = some u := fun j u hu => by
    rw [← flatR_drop, List.getElem?_drop] at hu
    have := hown.cells (g := g) rfl _ u hu
    rw [Addr.add_lit] at this ⊢
    rwa [Nat.zero_add] at this
  have HOLD := Lib.hid hold
  have HSRC := Lib.hid hsrc
  have HDL := Lib.hid hdl
  have HPL := Lib.hid hpl
  have HN := Lib.hid hn
  have HK : Hid ((n : Int) + 1 - (i : Int) = ((n + 1 - i : Nat) : Int)) := by unfold Hid; omega
  unfold InsQ
  have hz1' : ¬ ((i : Int) = (n : Int)) := by omega
  have hz3 : (cap : Int) < (n : Int) + 1 := by omega
  have hci : ¬ cap = i := by omega
  have hw1 : IntKind.i64.wrap ((i : Int) + 1) = (i : Int) + 1 := by rw [IntKind.wrap_i64]; omega
  have hb1 : (0 : Int) ≤ (i : Int) + 1 := by omega
  have htn : ((i : Int) + 1).toNat = i + 1 := by omega
  have hin2 : i ≤ n := by omega
  have hic : i ≤ cap := by omega
  have hb3 : (i : Int) ≤ (n : Int) + 1 := by omega
  have hb5 : (i : Int) + 1 ≤ (n : Int) + 1 := by omega
  have hvl : vb < W.heap.size := block_lt_of_cell (HNW.out 0 _ rfl)
  clear hsrc hold hdl hpl hn hi hvb hown
  go_enter Tryz.func36, Tryz.ntmps36
  go_wp2_with (at_builtin; go_must (refine list_append_make rfl _ _ 24 3 rfl 31 ti (ntV ByteArray.empty 0 0 0 none 0 0 0 0 0) 8 88 Tryz.underlying24 Tryz.underlying3 HI.out hz0 hz1 hz2 rfl (by decide) g i cap _ (n + 1 - i) rfl rfl HK.out (flatR (rs.take i)) HPL.out HOLD.out (by omega) (by omega) ?m1 ?m2 ?_))
  case m1 => unfold maxLen; omega
  case m2 => omega
  intro w1 gcap cur1 HG1 HC1 hg1
  rw [show i + (n + 1 - i) = n + 1 by omega] at HC1 ⊢
  have hgc := HC1.out.2.2.1
  have hgm : gcap ≤ 9223372036854775807 := by have := HC1.out.2.2.2; unfold maxLen at this; omega
  have hgi : ¬ gcap = i := by omega
  have hgi1 : ¬ gcap = i + 1 := by omega
  have HGS := Lib.hid hg1
  clear hg1
  go_wp2_with (with_reducible refine list_copy_row rfl (.tmp 43) (.tmp 44) 24 24 rfl 31 8 Tryz.underlying24 sizeNt W.heap.size (i * 8) (n + 1 - i) (gcap - i) ⟨vb, 0, none⟩ 1 1 rfl rfl cur1 _ HG1.out r.cells ?c1 ?c2 ?c3 H1.out ?_)
  case c1 => show 8 = _; simp only [Nat.min_def]; split <;> omega
  case c2 =>
    intro j u hu
    refine (World.cell?_of_block (a := (⟨vb, 0, none⟩ : Addr).add j) ?_).trans (HNW.out j u hu)
    rw [Addr.add_lit]
    exact HGS.out.block vb hvl (by simp)
  case c3 => rw [HC1.out.1]; show i * 8 + 8 ≤ _; omega
  intro w2 HG2 hg2
  have HS2 : Hid ((splice cur1 (i * 8) r.cells).length = gcap * 8) := by unfold Hid; rw [length_splice _ _ _ (by rw [HC1.out.1]; show i * 8 + 8 ≤ _; omega), HC1.out.1]
  have HSRC2 : Hid (∀ j u, (flatR (rs.drop i))[j]? = some u → w2.drew.cell? ((⟨g, i * 8, none⟩ : Addr).add j) = some u) := fun j u hu => by
    refine (World.cell?_of_block (w' := w2) (a := (⟨g, i * 8, none⟩ : Addr).add j) ?_).trans (HSRC.out j u hu)
    rw [Addr.add_lit]
    exact (hg2.block g (Nat.lt_of_lt_of_le hgl HGS.out.size) (fun e => by injection e; omega)).trans (HGS.out.block g hgl (by simp))
  have HGS2 := Lib.hid (grownBy_trans2 HGS.out hg2 (fun k e => by injection e with e; right; omega))
  have hG2 : Hid (w2.drew.heap[W.heap.size]? = some (.cells (splice cur1 (i * 8) r.cells).toArray 31 (0, 0))) := HG2.out
  clear hg2 HG2
  go_wp2_with fail
  go_region_law (refine step_copy_row rfl _ _ 24 24 rfl 31 8 Tryz.underlying24 sizeNt W.heap.size ((i + 1) * 8) (n - i) (gcap - (i + 1)) ⟨g, i * 8, none⟩ (n - i) (cap - i) (by simp [Act.eval, Act.put]) (by simp [Act.eval, Act.put]) (splice cur1 (i * 8) r.cells) _ hG2.out (flatR (rs.drop i)) (by rw [HDL.out]; congr 1; simp only [Nat.min_def]; split <;> omega) HSRC2.out (by rw [HDL.out, HS2.out]; omega) HD1.out ?_; intro w3 HG3 hg3)
  go_wp2
  go_ret
  have hln := HN.out
  have hll : (flatR (rs.take i ++ [r] ++ rs.drop i)).length = (n + 1) * 8 := by rw [flatR_length]; simp only [List.length_append, List.length_take, List.length_drop, List.length_cons, List.length_nil]; omega
  have hg0 : w2.grownBy w3 (some W.heap.size) := ⟨hg3.os, hg3.tape, hg3.output, hg3.size, hg3.block⟩
  rw [hln]
  refine ⟨W.heap.size, gcap, rfl, ⟨hll, .inr ⟨W.heap.size, gcap, _, rfl, hbase, HG3.out, hgc, HC1.out.2.2.2, ?_, ?_⟩⟩, grownBy_none (grownBy_trans2 HGS2.out hg0 (fun k e => by injection e with e; right; omega)) _, .inr rfl⟩
  · rw [List.size_toArray, length_splice _ _ _ (by rw [HDL.out, HS2.out]; omega), HS2.out]
  · have h := splice_grow (flatR (rs.take i)) (flatR (rs.drop i)) cur1 r.cells rfl (by rw [HPL.out]; exact HC1.out.2.1)
    rw [HPL.out, HDL.out] at h
    rw [flatR_append, flatR_append, flatR_one, ← h, show (i + 1) * 8 = i * 8 + 8 by omega]
    congr 1
    omega
end Go.Proofs.YtpnabggpdgjbmaaGreatDoor
namespace Go.Proofs.YtpnabggpdgjbmaaGreatDoor
open Go.RowKit Go.Sort
theorem OutNt.erase {w0 W W2 : World} {base g cap n1 k : Nat} {rs : List NtR} {own : Nat → Nat} (h : OutNt w0 base rs own (.slice (some ⟨g, 0, none⟩) (n1 + 1) cap) W) (hn : rs.length = n1 + 1) (hk : k ≤ n1)
    (hown : W2.ownsRow base 31 8 (.slice (some ⟨g, 0, none⟩) n1 cap) n1 (flatR (rs.eraseIdx k))) (hg : W.grownBy W2 (some g)) :
    OutNt w0 base (rs.eraseIdx k) (fun t => if own t ≤ k then own t else own t - 1) (.slice (some ⟨g, 0, none⟩) n1 cap) W2 := by
  have hl : (rs.eraseIdx k).length = n1 := by rw [List.length_eraseIdx_of_lt (by omega)]; omega
  have hg0 := h.own0 g rfl
  have keep : ∀ (j : Nat) (r : NtR), rs[j]? = some r → WrT W2 base r.T r.c r.x.terms := fun j r hr => (h.ts j r hr).1.grown hg fun t o i e hp e2 => by
    have h1 := ((h.ts j r hr).2 t o i e hp).1
    injection e2 with e2
    rw [e2, hg0] at h1
    omega
  refine ⟨by rw [hl]; exact hown, fun j r hr => ?_, fun g' e => ?_, below_grown h.bel h.row h.low hg, h.low, Nat.le_trans h.hi hg.size⟩
  · rw [List.getElem?_eraseIdx] at hr
    by_cases hj : j < k
    · rw [if_pos hj] at hr
      refine ⟨keep j r hr, fun t o i e hp => ?_⟩
      obtain ⟨q1, q2⟩ := (h.ts j r hr).2 t o i e hp
      exact ⟨by show (if _ then _ else _) = _; rw [if_pos (by omega)]; exact q1, Nat.lt_of_lt_of_le q2 hg.size⟩
    · rw [if_neg hj] at hr
      refine ⟨keep (j + 1) r hr, fun t o i e hp => ?_⟩
      obtain ⟨q1, q2⟩ := (h.ts (j + 1) r hr).2 t o i e hp
      exact ⟨by show (if _ then _ else _) = _; rw [if_neg (by omega)]; omega, Nat.lt_of_lt_of_le q2 hg.size⟩
  · have eg : some g = some g' := e
    injection eg with eg
    subst eg
    show (if _ then _ else _) = _
    rw [if_pos (by omega)]
    exact hg0
theorem zeroNt (w : World) : (zeroValue 31).run Tryz.prog w = .ok (ntV ByteArray.empty 0 0 0 none 0 0 0 0 0) w := by
  obtain ⟨ti, hi, hz0, hz1, hz2⟩ := info_parts infoNtR
  simp [zeroValue, typeInfo, hi, hz0]
set_option maxRecDepth 100000 in
set_option maxHeartbeats 1000000 in
theorem delete_any (w0 : World) (base g cap n1 k j : Nat) (rs : List NtR) (own : Nat → Nat) (W : World) (h : OutNt w0 base rs own (.slice (some ⟨g, 0, none⟩) (n1 + 1) cap) W) (hn : rs.length = n1 + 1) (hk : k ≤ n1) (hj : j = k + 1) :
    Calls Tryz.prog 44 #[.slice (some ⟨g, 0, none⟩) (n1 + 1) cap, .int .i64 k, .int .i64 (j : Int)] W fun e w' => ∃ own', e = .returned (.slice (some ⟨g, 0, none⟩) n1 cap) ∧ OutNt w0 base (rs.eraseIdx k) own' (.slice (some ⟨g, 0, none⟩) n1 cap) w' := by
  obtain ⟨ti, hi, hz0, hz1, hz2⟩ := info_parts infoNtR
  have hrow : W.drew.ownsRow base 31 8 (.slice (some ⟨g, 0, none⟩) (n1 + 1) cap) (n1 + 1) (flatR rs) := by have := h.row; rwa [hn] at this
  have hc1 : n1 + 1 ≤ cap := by
    rcases hrow.2 with ⟨h0, _⟩ | ⟨g', cap', cur, hv, _, _, h2, _⟩
    · cases h0
    · cases hv; exact h2
  have hcm : cap ≤ maxLen := by
    rcases hrow.2 with ⟨h0, _⟩ | ⟨g', cap', cur, hv, _, _, _, h2, _⟩
    · cases h0
    · cases hv; exact h2
  obtain ⟨A, hA, hsrc⟩ : ∃ A : Addr, (cap = j → A = ⟨g, 0, none⟩) ∧ (∀ i u, (flatR (rs.drop j))[i]? = some u → W.drew.cell? (A.add i) = some u) ∧ (¬ cap = j → A = ⟨g, j * 8, none⟩) := by
    by_cases hq : cap = j
    · refine ⟨⟨g, 0, none⟩, fun _ => rfl, fun i u hu => ?_, fun h => absurd hq h⟩
      rw [List.drop_eq_nil_of_le (by omega)] at hu
      simp [flatR] at hu
    · refine ⟨⟨g, j * 8, none⟩, fun h => absurd h hq, fun i u hu => ?_, fun _ => rfl⟩
      rw [← flatR_drop, List.getElem?_drop] at hu
      have := hrow.cells (g := g) rfl _ _ hu
      rw [Addr.add_lit] at this ⊢
      rw [Nat.zero_add] at this
      exact this
  obtain ⟨hsrc, hA2⟩ := hsrc
  obtain ⟨W1, hr1, hown1, hg1⟩ := run_append_own_spare (P := Tryz.prog) W.drew base 24 24 31 ti 8 Tryz.underlying24 hi hz1 g k cap _ (own_cut W.drew hrow (show k ≤ n1 + 1 by omega)) A (n1 + 1 - j) (cap - j) (flatR (rs.drop j)) (by rw [flatR_length, List.length_drop]; omega) hsrc (flatR_one8 _) (by omega)
  rw [show k + (n1 + 1 - j) = n1 by omega] at hr1 hown1
  rw [flatR_take, ← flatR_append, hj, ← List.eraseIdx_eq_take_drop_succ] at hown1
  obtain ⟨W2, hr2, hown2, hg2⟩ := run_clear_own (P := Tryz.prog) W1 base 24 31 (ntV ByteArray.empty 0 0 0 none 0 0 0 0 0) 8 Tryz.underlying24 zeroNt rfl (by simp [Value.oneCell', Value.cells]) g n1 cap (cap - n1) _ hown1 hc1
  have HO := Lib.hid h
  have HN := Lib.hid hn
  have HW2 := Lib.hid hown2
  have HG : Hid (W.grownBy W2 (some g)) := ⟨hg2.os.trans hg1.os, hg2.tape.trans hg1.tape, hg2.output.trans hg1.output, Nat.le_trans hg1.size hg2.size, fun b hb hne => (hg2.block b (Nat.lt_of_lt_of_le hb hg1.size) hne).trans (hg1.block b hb hne)⟩
  have HR1 := Lib.hid hr1
  have c1 : cap ≤ 9223372036854775807 := by unfold maxLen at hcm; omega
  have hic : k ≤ cap := by omega
  have hjc : j ≤ cap := by omega
  have hj0 : 0 < j := by omega
  have hkj : k ≤ j := by omega
  have hkj2 : ¬ k = j := by omega
  have hkn2 : ¬ n1 + 1 = k := by omega
  have hnc : n1 ≤ cap := by omega
  have hkn : k ≤ n1 + 1 := by omega
  have hk1 : j ≤ n1 + 1 := by omega
  have hk1i : (j : Int) ≤ (n1 : Int) + 1 := by omega
  clear h hn hj hown2 hg2 hg1 hown1 hrow hsrc hr1 hcm
  by_cases hq : cap = j
  · obtain rfl := hA hq
    clear hA hA2
    subst hq
    have hr3 := HR1.out
    rw [show n1 + 1 - cap = 0 by omega, Nat.sub_self] at hr3
    have HR1 := Lib.hid hr3
    clear hr3
    go_enter Tryz.func44, Tryz.ntmps44
    go_wp2_with fail
    go_region_law (refine step_append_eq rfl (.tmp 22) (.tmp 25) 24 24 rfl _ _ (by simp [Act.eval, Act.put]) (by simp [Act.eval, Act.put]) HR1.out ?_)
    go_wp2
    go_ret
    exact ⟨_, rfl, OutNt.erase HO.out HN.out hk HW2.out (HG.out)⟩
  · obtain rfl := hA2 hq
    clear hA hA2
    have hq2 : ¬ cap = n1 := by omega
    go_enter Tryz.func44, Tryz.ntmps44
    go_wp2_with fail
    go_region_law (refine step_append_eq rfl (.tmp 22) (.tmp 25) 24 24 rfl _ _ (by simp [Act.eval, Act.put]) (by simp [Act.eval, Act.put]) HR1.out ?_)
    go_wp2
    go_ret
    exact ⟨_, rfl, OutNt.erase HO.out HN.out hk HW2.out (HG.out)⟩
end Go.Proofs.YtpnabggpdgjbmaaGreatDoor
namespace Go.Proofs.YtpnabggpdgjbmaaGreatDoor
open Go.RowKit Go.Sort
def nnC (xs : List Nt) (s : ByteArray) : Int := if validNt xs = true then (if fndN s xs 0 < 0 then 3 else 0) else 1
/-- What NoteNamed hands back: a note of its own, or the empty one. -/
def RetNn (w : World) (xs : List Nt) (s : ByteArray) (e : Ending) (w' : World) : Prop :=
  (nnC xs s = 0 → ∃ x B d, xs[(fndN s xs 0).toNat]? = some x ∧ e = .returned (.tuple #[ntV x.name x.kind x.num x.den B x.terms.length d x.sp x.sd x.sq, .int .i64 0]) ∧ WrT w' w.heap.size B d x.terms) ∧
  (nnC xs s ≠ 0 → e = .returned (.tuple #[ntV ByteArray.empty 0 0 0 none 0 0 0 0 0, .int .i64 (nnC xs s)])) ∧ Below w.heap.size w w'
set_option maxRecDepth 100000 in
set_option maxHeartbeats 4000000 in
theorem iNoteNamed_any (A : Option Addr) (c : Nat) (xs : List Nt) (s : ByteArray) (w : World) (hr : RdNt w w.heap.size A xs) (hf : ∀ x ∈ xs, x.fits) (hl : xs.length ≤ 1048576) (ht : ∀ x ∈ xs, x.terms.length ≤ 1048576) :
    Calls Tryz.prog 11 #[.slice A xs.length c, .string s] w (RetNn w xs s) := by
  have HV : Hid (∀ W : World, Below w.heap.size w W → Calls Tryz.prog 28 #[.slice A xs.length c] W fun e w' => e = .returned (.bool (validNt xs)) ∧ Below W.heap.size W w') := fun W hb => iValidNotes_any A c xs W (hr.next hb) hf (by unfold maxLen; omega)
  have HC : Hid (nnC xs s = if validNt xs = true then (if fndN s xs 0 < 0 then 3 else 0) else 1) := rfl
  unfold RetNn
  cases hv : validNt xs
  · rw [hv] at HV HC
    have h1 : nnC xs s = 1 := HC.out
    rw [h1]
    clear hv hr hf ht HC h1
    go_enter Tryz.func11, Tryz.ntmps11
    go_wp2_with fail
    refine (HV.out _ (ext1 _ _)).mono ?_
    rintro e w1 ⟨rfl, hb1⟩
    have HZ := Lib.hid ((BoxV.new w #[.string ByteArray.empty, .int .i64 0, .int .i64 0, .int .i64 0, .slice none 0 0, .int .i64 0, .int .i64 0, .int .i64 0] 31).next hb1)
    have r0 := HZ.out.at 0 _ rfl
    have r1 := HZ.out.at 1 _ rfl
    have r2 := HZ.out.at 2 _ rfl
    have r3 := HZ.out.at 3 _ rfl
    have r4 := HZ.out.at 4 _ rfl
    have r5 := HZ.out.at 5 _ rfl
    have r6 := HZ.out.at 6 _ rfl
    have r7 := HZ.out.at 7 _ rfl
    have f0 := HZ.out.f 0
    have f1 := HZ.out.f 1
    have f2 := HZ.out.f 2
    have f3 := HZ.out.f 3
    have f4 := HZ.out.f 4
    have f5 := HZ.out.f 5
    have f6 := HZ.out.f 6
    have f7 := HZ.out.f 7
    go_wp2
    refine bodyPost_ret (v := .tuple #[ntV ByteArray.empty 0 0 0 none 0 0 0 0 0, .int .i64 1]) (by simp [results, Tryz.results11, go_sem, r0, r1, r2, r3, r4, r5, r6, r7]; rfl) rfl ⟨fun h => absurd h (by decide), fun _ => rfl, ?_⟩
    iterate 8 (refine ext_set ?_ (Nat.le_refl _) _)
    exact ext_trans (ext1 _ _) hb1
  · have HP : Hid (∀ W : World, Below w.heap.size w W → Calls Tryz.prog 35 #[.slice A xs.length c, .string s] W fun e w' => ∃ k : Nat, k ≤ xs.length ∧ Spl s xs k k ∧ e = .returned (.tuple #[.int .i64 (k : Int), .bool (fdB s xs k)]) ∧ Below W.heap.size W w') := fun W hb => placeOf_any A c xs s W (hr.next hb) hl (validNt_mono hv s)
    have HQ := Lib.hid (fun (k : Nat) (h1 : k ≤ xs.length) (h2 : Spl s xs k k) => fndN_spl hv h2 h1)
    have HR := Lib.hid hr
    have HCN := Lib.hid (fun (x : Nt) (T : Option Addr) (ct : Nat) (W : World) (h : RdT W W.heap.size T ct x.terms) (h2 : x ∈ xs) => copyNote_any x T ct W h (ht x h2))
    rw [hv] at HV HC
    clear hv hr hf ht
    go_enter Tryz.func11, Tryz.ntmps11
    go_wp2_with fail
    refine (HV.out _ (ext1 _ _)).mono ?_
    rintro e w1 ⟨rfl, hb1⟩
    have HZ := Lib.hid ((BoxV.new w #[.string ByteArray.empty, .int .i64 0, .int .i64 0, .int .i64 0, .slice none 0 0, .int .i64 0, .int .i64 0, .int .i64 0] 31).next hb1)
    have HB := Lib.hid (ext_trans (ext1 w (.cells #[.string ByteArray.empty, .int .i64 0, .int .i64 0, .int .i64 0, .slice none 0 0, .int .i64 0, .int .i64 0, .int .i64 0] 31)) hb1)
    clear hb1
    go_wp2_with fail
    refine (HP.out _ HB.out).mono ?_
    rintro e w2 ⟨k, hk, hsp, rfl, hb2⟩
    have HZ := Lib.hid (HZ.out.next hb2)
    have HB := Lib.hid (ext_trans HB.out hb2)
    have hfn := HQ.out k hk hsp
    clear hb2 hsp
    cases hfd : fdB s xs k
    · rw [hfd, if_neg (by simp)] at hfn
      have h1 : nnC xs s = 3 := by rw [HC.out, hfn]; rfl
      have H1 := Lib.hid h1
      clear h1 hfn hfd
      have r0 := HZ.out.at 0 _ rfl
      have r1 := HZ.out.at 1 _ rfl
      have r2 := HZ.out.at 2 _ rfl
      have r3 := HZ.out.at 3 _ rfl
      have r4 := HZ.out.at 4 _ rfl
      have r5 := HZ.out.at 5 _ rfl
      have r6 := HZ.out.at 6 _ rfl
      have r7 := HZ.out.at 7 _ rfl
      have f0 := HZ.out.f 0
      have f1 := HZ.out.f 1
      have f2 := HZ.out.f 2
      have f3 := HZ.out.f 3
      have f4 := HZ.out.f 4
      have f5 := HZ.out.f 5
      have f6 := HZ.out.f 6
      have f7 := HZ.out.f 7
      go_wp2
      refine bodyPost_ret (v := .tuple #[ntV ByteArray.empty 0 0 0 none 0 0 0 0 0, .int .i64 3]) (by simp [results, Tryz.results11, go_sem, r0, r1, r2, r3, r4, r5, r6, r7]; rfl) rfl ⟨fun h => absurd h (by rw [H1.out]; decide), fun _ => by rw [H1.out], ?_⟩
      iterate 8 (refine ext_set ?_ (Nat.le_refl _) _)
      exact HB.out
    · rw [hfd, if_pos rfl] at hfn
      have h1 : nnC xs s = 0 := by rw [HC.out, hfn, if_pos trivial, if_neg (by omega)]
      have H1 := Lib.hid h1
      have HF := Lib.hid hfn
      have hkl : k < xs.length := by
        rcases Nat.lt_or_ge k xs.length with g | g
        · exact g
        · unfold fdB at hfd; rw [List.getElem?_eq_none g] at hfd; simp at hfd
      clear h1 hfn hfd
      obtain ⟨b, off, rfl, hb, hc⟩ := (HR.out.next HB.out) (by omega)
      obtain ⟨x, hxk⟩ : ∃ x, xs[k]? = some x := ⟨_, List.getElem?_eq_getElem hkl⟩
      obtain ⟨T, ct, cr, cT⟩ := hc k x hxk
      obtain ⟨c0, c1, c2, c3, c4, c5, c6, c7⟩ := cr.nt
      have i0 : (0 : Int) ≤ (k : Int) := by omega
      have i1 : (k : Int) < (xs.length : Int) := by omega
      have HX := Lib.hid hxk
      have HC2 := Lib.hid (HCN.out x T ct w2 cT (List.mem_of_getElem? hxk))
      unfold RetNt at HC2
      clear hc hxk cr cT
      go_wp2_with fail
      refine HC2.out.mono ?_
      rintro e w3 ⟨B3, d3, rfl, hw3, hb3⟩
      have HLT := Lib.hid HZ.out.lt
      have HZ := Lib.hid (HZ.out.next hb3)
      have HW := Lib.hid hw3
      have HB0 := Lib.hid HB.out.size
      have HB := Lib.hid (ext_trans HB.out hb3)
      clear hb3 hw3 c0 c1 c2 c3 c4 c5 c6 c7
      have r0 := HZ.out.at 0 _ rfl
      have r1 := HZ.out.at 1 _ rfl
      have r2 := HZ.out.at 2 _ rfl
      have r3 := HZ.out.at 3 _ rfl
      have r4 := HZ.out.at 4 _ rfl
      have r5 := HZ.out.at 5 _ rfl
      have r6 := HZ.out.at 6 _ rfl
      have r7 := HZ.out.at 7 _ rfl
      have f0 := HZ.out.f 0
      have f1 := HZ.out.f 1
      have f2 := HZ.out.f 2
      have f3 := HZ.out.f 3
      have f4 := HZ.out.f 4
      have f5 := HZ.out.f 5
      have f6 := HZ.out.f 6
      have f7 := HZ.out.f 7
      go_wp2
      refine bodyPost_ret (v := .tuple #[ntV x.name x.kind x.num x.den B3 x.terms.length d3 x.sp x.sd x.sq, .int .i64 0]) (by simp [results, Tryz.results11, go_sem, r0, r1, r2, r3, r4, r5, r6, r7]) rfl ⟨fun _ => ⟨x, B3, d3, by rw [HF.out]; exact HX.out, rfl, ?_⟩, fun h => absurd H1.out h, ?_⟩
      · refine ⟨Wr.more (B := w2.heap.size) ?_ HB0.out, HW.out.2⟩
        iterate 8 (refine Wr.setLow ?_ HLT.out _)
        exact HW.out.1
      · iterate 8 (refine ext_set ?_ (Nat.le_refl _) _)
        exact HB.out
end Go.Proofs.YtpnabggpdgjbmaaGreatDoor
namespace Go.Proofs.YtpnabggpdgjbmaaGreatDoor
open Go.RowKit Go.Sort
theorem fndN_lt (s : ByteArray) : ∀ (xs : List Nt) (k : Nat), fndN s xs k < (k : Int) + (xs.length : Int) ∨ fndN s xs k = -1
  | [], k => .inr rfl
  | x :: xs, k => by
    unfold fndN
    split
    · left; simp; omega
    · have := fndN_lt s xs (k + 1)
      rcases this with h | h
      · left; simp only [List.length_cons]; omega
      · right; exact h
theorem fndN_bd (s : ByteArray) (xs : List Nt) : fndN s xs 0 < (xs.length : Int) ∨ fndN s xs 0 = -1 := by
  have := fndN_lt s xs 0
  omega
set_option maxRecDepth 100000 in
set_option maxHeartbeats 4000000 in
theorem sNoteNamed_any (A : Option Addr) (c : Nat) (xs : List Nt) (s : ByteArray) (w : World) (hr : RdNt w w.heap.size A xs) (hf : ∀ x ∈ xs, x.fits) (hl : xs.length ≤ 1048576) (ht : ∀ x ∈ xs, x.terms.length ≤ 1048576) :
    Calls Tryz.prog 12 #[.slice A xs.length c, .string s] w (RetNn w xs s) := by
  have HV : Hid (∀ W : World, Below w.heap.size w W → Calls Tryz.prog 39 #[.slice A xs.length c] W fun e w' => e = .returned (.bool (validNt xs)) ∧ Below W.heap.size W w') := fun W hb => l27Ok_any A c xs W (hr.next hb) hf (by unfold maxLen; omega)
  have HC : Hid (nnC xs s = if validNt xs = true then (if fndN s xs 0 < 0 then 3 else 0) else 1) := rfl
  unfold RetNn
  cases hv : validNt xs
  · rw [hv] at HV HC
    have h1 : nnC xs s = 1 := HC.out
    rw [h1]
    clear hv hr hf ht HC h1
    go_enter Tryz.func12, Tryz.ntmps12
    go_wp2_with fail
    refine (HV.out _ (ext1 _ _)).mono ?_
    rintro e w1 ⟨rfl, hb1⟩
    have HZ := Lib.hid ((BoxV.new w #[.string ByteArray.empty, .int .i64 0, .int .i64 0, .int .i64 0, .slice none 0 0, .int .i64 0, .int .i64 0, .int .i64 0] 31).next hb1)
    have r0 := HZ.out.at 0 _ rfl
    have r1 := HZ.out.at 1 _ rfl
    have r2 := HZ.out.at 2 _ rfl
    have r3 := HZ.out.at 3 _ rfl
    have r4 := HZ.out.at 4 _ rfl
    have r5 := HZ.out.at 5 _ rfl
    have r6 := HZ.out.at 6 _ rfl
    have r7 := HZ.out.at 7 _ rfl
    have f0 := HZ.out.f 0
    have f1 := HZ.out.f 1
    have f2 := HZ.out.f 2
    have f3 := HZ.out.f 3
    have f4 := HZ.out.f 4
    have f5 := HZ.out.f 5
    have f6 := HZ.out.f 6
    have f7 := HZ.out.f 7
    go_wp2
    refine bodyPost_ret (v := .tuple #[ntV ByteArray.empty 0 0 0 none 0 0 0 0 0, .int .i64 1]) (by simp [results, Tryz.results12, go_sem, r0, r1, r2, r3, r4, r5, r6, r7]; rfl) rfl ⟨fun h => absurd h (by decide), fun _ => rfl, ?_⟩
    iterate 8 (refine ext_set ?_ (Nat.le_refl _) _)
    exact ext_trans (ext1 _ _) hb1
  · have HP : Hid (∀ W : World, Below w.heap.size w W → Calls Tryz.prog 41 #[.slice A xs.length c, .string s] W fun e w' => e = .returned (.int .i64 (fndN s xs 0)) ∧ Below W.heap.size W w') := fun W hb => l27Find_any A c xs s W (hr.next hb) (by unfold maxLen; omega)
    have HQ := Lib.hid (fndN_bd s xs)
    have HR := Lib.hid hr
    have HCN := Lib.hid (fun (x : Nt) (b o : Nat) (T : Option Addr) (ct : Nat) (W : World) (h3 : NtAt W b o x T ct) (h : RdT W W.heap.size T ct x.terms) (h2 : x ∈ xs) => l27Own_any x b o T ct W h3 h (ht x h2))
    rw [hv] at HV HC
    clear hv hr hf ht
    go_enter Tryz.func12, Tryz.ntmps12
    go_wp2_with fail
    refine (HV.out _ (ext1 _ _)).mono ?_
    rintro e w1 ⟨rfl, hb1⟩
    have HZ := Lib.hid ((BoxV.new w #[.string ByteArray.empty, .int .i64 0, .int .i64 0, .int .i64 0, .slice none 0 0, .int .i64 0, .int .i64 0, .int .i64 0] 31).next hb1)
    have HB := Lib.hid (ext_trans (ext1 w (.cells #[.string ByteArray.empty, .int .i64 0, .int .i64 0, .int .i64 0, .slice none 0 0, .int .i64 0, .int .i64 0, .int .i64 0] 31)) hb1)
    clear hb1
    go_wp2_with fail
    refine (HP.out _ HB.out).mono ?_
    rintro e w2 ⟨rfl, hb2⟩
    have HZ := Lib.hid (HZ.out.next hb2)
    have HB := Lib.hid (ext_trans HB.out hb2)
    clear hb2
    by_cases hneg : fndN s xs 0 < 0
    · have h1 : nnC xs s = 3 := by rw [HC.out, if_pos trivial, if_pos hneg]
      have H1 := Lib.hid h1
      clear h1
      generalize fndN s xs 0 = R at *
      have r0 := HZ.out.at 0 _ rfl
      have r1 := HZ.out.at 1 _ rfl
      have r2 := HZ.out.at 2 _ rfl
      have r3 := HZ.out.at 3 _ rfl
      have r4 := HZ.out.at 4 _ rfl
      have r5 := HZ.out.at 5 _ rfl
      have r6 := HZ.out.at 6 _ rfl
      have r7 := HZ.out.at 7 _ rfl
      have f0 := HZ.out.f 0
      have f1 := HZ.out.f 1
      have f2 := HZ.out.f 2
      have f3 := HZ.out.f 3
      have f4 := HZ.out.f 4
      have f5 := HZ.out.f 5
      have f6 := HZ.out.f 6
      have f7 := HZ.out.f 7
      go_wp2
      refine bodyPost_ret (v := .tuple #[ntV ByteArray.empty 0 0 0 none 0 0 0 0 0, .int .i64 3]) (by simp [results, Tryz.results12, go_sem, r0, r1, r2, r3, r4, r5, r6, r7]; rfl) rfl ⟨fun h => absurd h (by rw [H1.out]; decide), fun _ => by rw [H1.out], ?_⟩
      iterate 8 (refine ext_set ?_ (Nat.le_refl _) _)
      exact HB.out
    · have h1 : nnC xs s = 0 := by rw [HC.out, if_pos trivial, if_neg hneg]
      have H1 := Lib.hid h1
      obtain ⟨k, hkR⟩ : ∃ k : Nat, fndN s xs 0 = (k : Int) := ⟨(fndN s xs 0).toNat, by omega⟩
      have hkl : k < xs.length := by have := HQ.out; rw [hkR] at this; omega
      have HF := Lib.hid hkR
      rw [hkR] at hneg ⊢
      clear h1 hkR
      obtain ⟨b, off, rfl, hb, hc⟩ := (HR.out.next HB.out) (by omega)
      obtain ⟨x, hxk⟩ : ∃ x, xs[k]? = some x := ⟨_, List.getElem?_eq_getElem hkl⟩
      obtain ⟨T, ct, cr, cT⟩ := hc k x hxk
      obtain ⟨c0, c1, c2, c3, c4, c5, c6, c7⟩ := cr.nt
      have i0 : (0 : Int) ≤ (k : Int) := by omega
      have i1 : (k : Int) < (xs.length : Int) := by omega
      have HX := Lib.hid hxk
      have HC2 := Lib.hid (HCN.out x b (off + k * 8) T ct w2 cr.nt cT (List.mem_of_getElem? hxk))
      unfold RetNt at HC2
      clear hc hxk cr cT
      go_wp2_with fail
      refine HC2.out.mono ?_
      rintro e w3 ⟨B3, d3, rfl, hw3, hb3⟩
      have HLT := Lib.hid HZ.out.lt
      have HZ := Lib.hid (HZ.out.next hb3)
      have HW := Lib.hid hw3
      have HB0 := Lib.hid HB.out.size
      have HB := Lib.hid (ext_trans HB.out hb3)
      clear hb3 hw3 c0 c1 c2 c3 c4 c5 c6 c7
      have r0 := HZ.out.at 0 _ rfl
      have r1 := HZ.out.at 1 _ rfl
      have r2 := HZ.out.at 2 _ rfl
      have r3 := HZ.out.at 3 _ rfl
      have r4 := HZ.out.at 4 _ rfl
      have r5 := HZ.out.at 5 _ rfl
      have r6 := HZ.out.at 6 _ rfl
      have r7 := HZ.out.at 7 _ rfl
      have f0 := HZ.out.f 0
      have f1 := HZ.out.f 1
      have f2 := HZ.out.f 2
      have f3 := HZ.out.f 3
      have f4 := HZ.out.f 4
      have f5 := HZ.out.f 5
      have f6 := HZ.out.f 6
      have f7 := HZ.out.f 7
      go_wp2
      refine bodyPost_ret (v := .tuple #[ntV x.name x.kind x.num x.den B3 x.terms.length d3 x.sp x.sd x.sq, .int .i64 0]) (by simp [results, Tryz.results12, go_sem, r0, r1, r2, r3, r4, r5, r6, r7]) rfl ⟨fun _ => ⟨x, B3, d3, by rw [HF.out]; exact HX.out, rfl, ?_⟩, fun h => absurd H1.out h, ?_⟩
      · refine ⟨Wr.more (B := w2.heap.size) ?_ HB0.out, HW.out.2⟩
        iterate 8 (refine Wr.setLow ?_ HLT.out _)
        exact HW.out.1
      · iterate 8 (refine ext_set ?_ (Nat.le_refl _) _)
        exact HB.out
end Go.Proofs.YtpnabggpdgjbmaaGreatDoor
