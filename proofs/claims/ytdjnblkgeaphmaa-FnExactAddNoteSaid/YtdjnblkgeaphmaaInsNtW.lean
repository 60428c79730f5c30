/- One note more in a slice of notes of one's own: slices.Insert. No condition but those that each theorem names. -/
import Derived.Test.YtdjnblkgeaphmaaInsNtP
namespace Go.Proofs.Ytdjnblkgeaphmaa
open Go.RowKit Go.Sort

/-- What slices.Insert returns. -/
def InsQ (base : Nat) (rs : List NtR) (r : NtR) (i : Nat) (v : Value) (W : World) (e : Ending) (w' : World) : Prop := ∃ g cap, e = .returned (.slice (some ⟨g, 0, none⟩) (rs.length + 1) cap) ∧
  w'.ownsRow base 30 8 (.slice (some ⟨g, 0, none⟩) (rs.length + 1) cap) (rs.length + 1) (flatR (rs.take i ++ [r] ++ rs.drop i)) ∧ W.grownBy w' v.ownBlock ∧ (v.ownBlock = some g ∨ g = W.heap.size)
theorem news_box {W : World} {vb : Nat} {cs : List Value} {T : TypeId} (h : W.heap[vb]? = some (.cells cs.toArray T (0, 0))) : ∀ j u, cs[j]? = some u → W.cell? ((⟨vb, 0, none⟩ : Addr).add j) = some u := fun j u hu => World.news_of_block h j u (by simpa using hu)
theorem sizeNt : (Try.prog.info? 30).map (·.size) = some 8 := by
  obtain ⟨ti, hi, hz0, hz1, hz2⟩ := info_parts infoNtR
  rw [hi]; simp [hz1]
set_option maxRecDepth 100000 in
set_option maxHeartbeats 1000000 in
theorem insert_end (base vb : Nat) (rs : List NtR) (r : NtR) (v : Value) (W : World) (hown : W.ownsRow base 30 8 v rs.length (flatR rs)) (hl : rs.length ≤ 1048576) (hvb : W.heap[vb]? = some (.cells r.cells.toArray 30 (0, 0))) (hbase : base ≤ W.heap.size) :
    Calls Try.prog 96 #[v, .int .i64 rs.length, .slice (some ⟨vb, 0, none⟩) 1 1] W (InsQ base rs r rs.length v W) := by
  obtain ⟨ti, hi, hz0, hz1, hz2⟩ := info_parts infoNtR
  have HI := Lib.hid hi
  have HNW := Lib.hid (news_box hvb)
  have HE : Hid (flatR (rs.take rs.length ++ [r] ++ rs.drop rs.length) = flatR rs ++ r.cells) := by unfold Hid; rw [List.take_length, List.drop_length, List.append_nil, flatR_append, flatR_one]
  have H1 : Hid (∀ u ∈ r.cells, u.oneCell' = true) := fun u hu => flatR_one8 [r] u (by rw [flatR_one]; exact hu)
  have HO := Lib.hid hown
  unfold InsQ
  rcases hown.2 with ⟨rfl, h0⟩ | ⟨g, cap, cur, rfl, hbg, hg, hnc, hcm, hcs, htake⟩
  · have h0' : rs = [] := List.eq_nil_of_length_eq_zero h0
    subst h0'
    clear hown hi hvb h0
    simp only [List.length_nil] at HO ⊢
    go_enter Try.func96, Try.ntmps96
    go_wp2_with (at_builtin; go_must (refine wpList_append_lies _ rfl _ _ 33 rfl base 30 ti (ntV ByteArray.empty 0 0 0 none 0 0 0 0 0) 8 88 Try.underlying33 HI.out hz0 hz1 hz2 rfl (by decide) _ _ _ rfl HO.out ⟨vb, 0, none⟩ 1 1 r.cells rfl rfl HNW.out H1.out (by omega) ?c1 ?c2 hbase _ rfl ?_))
    case c1 => unfold maxLen; omega
    case c2 => omega
    intro g6 cap6 w6 hown6 hgrow hat _
    go_wp2
    go_ret
    exact ⟨g6, cap6, rfl, by simpa [flatR] using hown6, hgrow, hat⟩
  · have hcm' : cap ≤ 9223372036854775807 := by unfold maxLen at hcm; omega
    clear hown hi hvb hg hcs htake hcm
    generalize rs.length = n at *
    by_cases hq : cap = n
    · subst hq
      go_enter Try.func96, Try.ntmps96
      go_wp2_with (at_builtin; go_must (refine wpList_append_lies _ rfl _ _ 33 rfl base 30 ti (ntV ByteArray.empty 0 0 0 none 0 0 0 0 0) 8 88 Try.underlying33 HI.out hz0 hz1 hz2 rfl (by decide) _ _ _ rfl HO.out ⟨vb, 0, none⟩ 1 1 r.cells rfl rfl HNW.out H1.out (by omega) ?d1 ?d2 hbase _ rfl ?_))
      case d1 => unfold maxLen; omega
      case d2 => omega
      intro g6 cap6 w6 hown6 hgrow hat _
      go_wp2
      go_ret
      exact ⟨g6, cap6, rfl, by rw [HE.out]; exact hown6, hgrow, hat⟩
    · skip
      go_enter Try.func96, Try.ntmps96
      go_wp2_with (at_builtin; go_must (refine wpList_append_lies _ rfl _ _ 33 rfl base 30 ti (ntV ByteArray.empty 0 0 0 none 0 0 0 0 0) 8 88 Try.underlying33 HI.out hz0 hz1 hz2 rfl (by decide) _ _ _ rfl HO.out ⟨vb, 0, none⟩ 1 1 r.cells rfl rfl HNW.out H1.out (by omega) ?f1 ?f2 hbase _ rfl ?_))
      case f1 => unfold maxLen; omega
      case f2 => omega
      intro g6 cap6 w6 hown6 hgrow hat _
      go_wp2
      go_ret
      exact ⟨g6, cap6, rfl, by rw [HE.out]; exact hown6, hgrow, hat⟩
set_option maxRecDepth 100000 in
set_option maxHeartbeats 1000000 in
theorem insert_room (base vb g n cap i : Nat) (rs : List NtR) (r : NtR) (W : World) (cur : Array Value) (hg : W.heap[g]? = some (.cells cur 30 (0, 0))) (hcs : cur.size = cap * 8) (htake : cur.toList.take (n * 8) = flatR rs) (hbg : base ≤ g)
    (hn : rs.length = n) (hl : n ≤ 1048576) (hin : i < n) (hroom : n + 1 ≤ cap) (hcm : cap ≤ maxLen) (hvb : W.heap[vb]? = some (.cells r.cells.toArray 30 (0, 0))) (hne : vb ≠ g) :
    Calls Try.prog 96 #[.slice (some ⟨g, 0, none⟩) n cap, .int .i64 i, .slice (some ⟨vb, 0, none⟩) 1 1] W (InsQ base rs r i (.slice (some ⟨g, 0, none⟩) n cap) W) := by
  have hc63 : cap ≤ 9223372036854775807 := by unfold maxLen at hcm; omega
  have HCM := Lib.hid hcm
  have HNW := Lib.hid (news_box hvb)
  have H1 : Hid (∀ u ∈ r.cells, u.oneCell' = true) := fun u hu => flatR_one8 [r] u (by rw [flatR_one]; exact hu)
  have HD1 : Hid (∀ u ∈ flatR (rs.drop i), u.oneCell' = true) := flatR_one8 _
  obtain ⟨C, hC⟩ : ∃ C, C = cur.toList := ⟨_, rfl⟩
  have hcur : cur = C.toArray := by rw [hC]
  subst hcur
  have hCl : C.length = cap * 8 := by simpa using hcs
  have hdl : (flatR (rs.drop i)).length = (n - i) * 8 := by rw [flatR_length, List.length_drop, hn]
  have hpl : (flatR (rs.take i)).length = i * 8 := by rw [flatR_length, List.length_take]; omega
  have hsp : C = flatR (rs.take i) ++ flatR (rs.drop i) ++ C.drop (n * 8) := by
    rw [← flatR_append, List.take_append_drop, ← htake]
    simp
  have hrl : 8 ≤ (C.drop (n * 8)).length := by rw [List.length_drop, hCl]; omega
  have hfin : splice (splice C ((i + 1) * 8) (flatR (rs.drop i))) (i * 8) r.cells = flatR (rs.take i ++ [r] ++ rs.drop i) ++ (C.drop (n * 8)).drop 8 := by
    have h := splice_room (flatR (rs.take i)) (flatR (rs.drop i)) (C.drop (n * 8)) r.cells rfl hrl
    rw [← hsp, hpl] at h
    rw [flatR_append, flatR_append, flatR_one, ← h, Nat.add_mul, Nat.one_mul]
  have HF := Lib.hid hfin
  have HCL := Lib.hid hCl
  have HDL := Lib.hid hdl
  have HRL := Lib.hid hrl
  have HN := Lib.hid hn
  have hcell : ∀ (W' : World) (X : List Value), W'.heap[g]? = some (.cells X.toArray 30 (0, 0)) → ∀ j u, X[j]? = some u → W'.cell? ⟨g, j, none⟩ = some u := fun W' X hX j u hu => by
    have := news_box hX j u hu
    rwa [Addr.add_lit, Nat.zero_add] at this
  have hsrc : ∀ j u, (flatR (rs.drop i))[j]? = some u → W.drew.cell? ((⟨g, i * 8, none⟩ : Addr).add j) = some u := fun j u hu => by
    rw [Addr.add_lit]
    refine hcell W.drew C hg _ _ ?_
    rw [hsp, List.append_assoc, List.getElem?_append_right (by omega), hpl, show i * 8 + j - i * 8 = j by omega, List.getElem?_append_left (List.getElem?_eq_some_iff.1 hu).1]
    exact hu
  have HSRC := Lib.hid hsrc
  have hG : Hid (W.drew.heap[g]? = some (.cells C.toArray 30 (0, 0))) := hg
  have hfit1 : Hid ((i + 1) * 8 + (flatR (rs.drop i)).length ≤ C.length) := by unfold Hid; rw [hdl, hCl]; omega
  have hsl : Hid ((splice C ((i + 1) * 8) (flatR (rs.drop i))).length = cap * 8) := by unfold Hid; rw [length_splice _ _ _ hfit1.out, hCl]
  have hov : ∀ lb cb, (callFunc 164 #[.slice (some ⟨vb, 0, none⟩) 1 1, .slice (some ⟨g, (i + 1) * 8, none⟩) lb cb]).run Try.prog W = .ok (.value (.bool false)) W := fun lb cb => by
    rw [run_callFunc_extern Try.func164 (by kernel_rfl) (by kernel_rfl) (by kernel_rfl) (e := Extern.SlicesOverlaps.overlaps #[33, 33] #[4]) (by kernel_rfl),
      Lib.run_overlaps_apart W 33 4 30 Try.underlying33 8 (fun w => by
        obtain ⟨ti, hi, hz0, hz1, hz2⟩ := info_parts infoNtR
        simp [sizeOf, typeInfo, hi, hz1]) ⟨vb, 0, none⟩ ⟨g, (i + 1) * 8, none⟩ 1 1 lb cb hne 30 30 8 (cap * 8) (by simp [World.shape?, hvb, NtR.cells, ntC]) (by simp [World.shape?, hg, hCl]) (by omega) (by simp [World.frozen?, hvb]) (by simp [World.frozen?, hvb])]
    rfl
  unfold InsQ
  have hz1 : ¬ ((i : Int) = (n : Int)) := by omega
  have hz3 : ¬ ((cap : Int) < (n : Int) + 1) := by omega
  have hci : ¬ cap = i := by omega
  have hci1 : ¬ cap = i + 1 := by omega
  have hw1 : IntKind.i64.wrap ((i : Int) + 1) = (i : Int) + 1 := by rw [IntKind.wrap_i64]; omega
  have hb1 : (0 : Int) ≤ (i : Int) + 1 := by omega
  have htn : ((i : Int) + 1).toNat = i + 1 := by omega
  have hin2 : i ≤ n := by omega
  have hb3 : (i : Int) ≤ (n : Int) + 1 := by omega
  have hb5 : (i : Int) + 1 ≤ (n : Int) + 1 := by omega
  have hb4 : n + 1 ≤ cap := hroom
  clear hsrc hcell hfin hCl hdl hpl hrl hsp hg hcs htake hC hvb hn hcm
  go_enter Try.func96, Try.ntmps96
  go_wp2_with (simp only [hov])
  go_region_law (refine step_copy_row rfl _ _ 33 33 rfl 30 8 Try.underlying33 sizeNt g ((i + 1) * 8) (n - i) (cap - (i + 1)) ⟨g, i * 8, none⟩ (n + 1 - i) (cap - i) (by simp [Act.eval, Act.put]) (by simp [Act.eval, Act.put]) C _ hG.out (flatR (rs.drop i)) (by rw [HDL.out]; congr 1; simp only [Nat.min_def]; split <;> omega) HSRC.out hfit1.out HD1.out ?_; intro w1 HG1 hg1)
  go_wp2_with (with_reducible refine list_copy_row rfl (.tmp 80) (.tmp 81) 33 33 rfl 30 8 Try.underlying33 sizeNt g (i * 8) (n + 1 - i) (cap - i) ⟨vb, 0, none⟩ 1 1 rfl rfl (splice C ((i + 1) * 8) (flatR (rs.drop i))) _ HG1.out r.cells ?c1 ?c2 ?c3 H1.out ?_)
  case c1 => show 8 = _; simp only [Nat.min_def]; split <;> omega
  case c2 =>
    intro j u hu
    refine (World.cell?_of_block (a := (⟨vb, 0, none⟩ : Addr).add j) ?_).trans (HNW.out j u hu)
    rw [Addr.add_lit]
    exact hg1.block vb (block_lt_of_cell (HNW.out 0 _ rfl)) (fun e => hne (by injection e))
  case c3 => rw [hsl.out]; show i * 8 + 8 ≤ _; omega
  intro w2 HG2 hg2
  go_wp2
  go_ret
  have hln := HN.out
  have hll : (flatR (rs.take i ++ [r] ++ rs.drop i)).length = (n + 1) * 8 := by rw [flatR_length]; simp only [List.length_append, List.length_take, List.length_drop, List.length_cons, List.length_nil]; omega
  have hg0 : W.grownBy w1 (some g) := ⟨hg1.os, hg1.tape, hg1.output, hg1.size, hg1.block⟩
  rw [hln]
  refine ⟨g, cap, rfl, ⟨hll, .inr ⟨g, cap, _, rfl, hbg, HG2.out, hb4, HCM.out, ?_, ?_⟩⟩, grownBy_trans2 hg0 hg2 (fun k e => .inl e), .inl rfl⟩
  · rw [List.size_toArray, length_splice _ _ _ (by rw [hsl.out]; show i * 8 + 8 ≤ _; omega), hsl.out]
  · rw [HF.out, List.take_left' hll]
set_option maxRecDepth 100000 in
set_option maxHeartbeats 1000000 in
theorem insert_grow (base vb g n cap i : Nat) (rs : List NtR) (r : NtR) (W : World) (hown : W.ownsRow base 30 8 (.slice (some ⟨g, 0, none⟩) n cap) n (flatR rs)) (hbase : base ≤ W.heap.size)
    (hn : rs.length = n) (hl : n ≤ 1048576) (hin : i < n) (hroom : cap < n + 1) (hvb : W.heap[vb]? = some (.cells r.cells.toArray 30 (0, 0))) :
    Calls Try.prog 96 #[.slice (some ⟨g, 0, none⟩) n cap, .int .i64 i, .slice (some ⟨vb, 0, none⟩) 1 1] W (InsQ base rs r i (.slice (some ⟨g, 0, none⟩) n cap) W) := by
  obtain ⟨ti, hi, hz0, hz1, hz2⟩ := info_parts infoNtR
  have HI := Lib.hid hi
  have hnc : n ≤ cap := by
    rcases hown.2 with ⟨h0, _⟩ | ⟨g', cap', cur, hv, _, _, h2, _⟩
    · cases h0
    · cases hv; exact h2
  have hgl : g < W.heap.size := (hown.lt g rfl).2
  have HNW := Lib.hid (news_box hvb)
  have H1 : Hid (∀ u ∈ r.cells, u.oneCell' = true) := fun u hu => flatR_one8 [r] u (by rw [flatR_one]; exact hu)
  have HD1 : Hid (∀ u ∈ flatR (rs.drop i), u.oneCell' = true) := flatR_one8 _
  have hdl : (flatR (rs.drop i)).length = (n - i) * 8 := by rw [flatR_length, List.length_drop, hn]
  have hpl : (flatR (rs.take i)).length = i * 8 := by rw [flatR_length, List.length_take]; omega
  have hold : ∀ j u, (flatR (rs.take i))[j]? = some u → W.cell? ((⟨g, 0, none⟩ : Addr).add j) = some u := fun j u hu => by
    rw [← flatR_take, List.getElem?_take] at hu
    split at hu
    · exact hown.cells (g := g) rfl j u hu
    · cases hu
  have hsrc : ∀ j u, (flatR (rs.drop i))[j]? = some u → W.cell? ((⟨g, i * 8, none⟩ : Addr).add j) = some u := fun j u hu => by
    rw [← flatR_drop, List.getElem?_drop] at hu
    have := hown.cells (g := g) rfl _ u hu
    rw [Addr.add_lit] at this ⊢
    rwa [Nat.zero_add] at this
  have HOLD := Lib.hid hold
  have HSRC := Lib.hid hsrc
  have HDL := Lib.hid hdl
  have HPL := Lib.hid hpl
  have HN := Lib.hid hn
  have HK : Hid ((n : Int) + 1 - (i : Int) = ((n + 1 - i : Nat) : Int)) := by unfold Hid; omega
  unfold InsQ
  have hz1' : ¬ ((i : Int) = (n : Int)) := by omega
  have hz3 : (cap : Int) < (n : Int) + 1 := by omega
  have hci : ¬ cap = i := by omega
  have hw1 : IntKind.i64.wrap ((i : Int) + 1) = (i : Int) + 1 := by rw [IntKind.wrap_i64]; omega
  have hb1 : (0 : Int) ≤ (i : Int) + 1 := by omega
  have htn : ((i : Int) + 1).toNat = i + 1 := by omega
  have hin2 : i ≤ n := by omega
  have hic : i ≤ cap := by omega
  have hb3 : (i : Int) ≤ (n : Int) + 1 := by omega
  have hb5 : (i : Int) + 1 ≤ (n : Int) + 1 := by omega
  have hvl : vb < W.heap.size := block_lt_of_cell (HNW.out 0 _ rfl)
  clear hsrc hold hdl hpl hn hi hvb hown
  go_enter Try.func96, Try.ntmps96
  go_wp2_with (at_builtin; go_must (refine list_append_make rfl _ _ 33 3 rfl 30 ti (ntV ByteArray.empty 0 0 0 none 0 0 0 0 0) 8 88 Try.underlying33 Try.underlying3 HI.out hz0 hz1 hz2 rfl (by decide) g i cap _ (n + 1 - i) rfl rfl HK.out (flatR (rs.take i)) HPL.out HOLD.out (by omega) (by omega) ?m1 ?m2 ?_))
  case m1 => unfold maxLen; omega
  case m2 => omega
  intro w1 gcap cur1 HG1 HC1 hg1
  rw [show i + (n + 1 - i) = n + 1 by omega] at HC1 ⊢
  have hgc := HC1.out.2.2.1
  have hgm : gcap ≤ 9223372036854775807 := by have := HC1.out.2.2.2; unfold maxLen at this; omega
  have hgi : ¬ gcap = i := by omega
  have hgi1 : ¬ gcap = i + 1 := by omega
  have HGS := Lib.hid hg1
  clear hg1
  go_wp2_with (with_reducible refine list_copy_row rfl (.tmp 43) (.tmp 44) 33 33 rfl 30 8 Try.underlying33 sizeNt W.heap.size (i * 8) (n + 1 - i) (gcap - i) ⟨vb, 0, none⟩ 1 1 rfl rfl cur1 _ HG1.out r.cells ?c1 ?c2 ?c3 H1.out ?_)
  case c1 => show 8 = _; simp only [Nat.min_def]; split <;> omega
  case c2 =>
    intro j u hu
    refine (World.cell?_of_block (a := (⟨vb, 0, none⟩ : Addr).add j) ?_).trans (HNW.out j u hu)
    rw [Addr.add_lit]
    exact HGS.out.block vb hvl (by simp)
  case c3 => rw [HC1.out.1]; show i * 8 + 8 ≤ _; omega
  intro w2 HG2 hg2
  have HS2 : Hid ((splice cur1 (i * 8) r.cells).length = gcap * 8) := by unfold Hid; rw [length_splice _ _ _ (by rw [HC1.out.1]; show i * 8 + 8 ≤ _; omega), HC1.out.1]
  have HSRC2 : Hid (∀ j u, (flatR (rs.drop i))[j]? = some u → w2.drew.cell? ((⟨g, i * 8, none⟩ : Addr).add j) = some u) := fun j u hu => by
    refine (World.cell?_of_block (w' := w2) (a := (⟨g, i * 8, none⟩ : Addr).add j) ?_).trans (HSRC.out j u hu)
    rw [Addr.add_lit]
    exact (hg2.block g (Nat.lt_of_lt_of_le hgl HGS.out.size) (fun e => by injection e; omega)).trans (HGS.out.block g hgl (by simp))
  have HGS2 := Lib.hid (grownBy_trans2 HGS.out hg2 (fun k e => by injection e with e; right; omega))
  have hG2 : Hid (w2.drew.heap[W.heap.size]? = some (.cells (splice cur1 (i * 8) r.cells).toArray 30 (0, 0))) := HG2.out
  clear hg2 HG2
  go_wp2_with fail
  go_region_law (refine step_copy_row rfl _ _ 33 33 rfl 30 8 Try.underlying33 sizeNt W.heap.size ((i + 1) * 8) (n - i) (gcap - (i + 1)) ⟨g, i * 8, none⟩ (n - i) (cap - i) (by simp [Act.eval, Act.put]) (by simp [Act.eval, Act.put]) (splice cur1 (i * 8) r.cells) _ hG2.out (flatR (rs.drop i)) (by rw [HDL.out]; congr 1; simp only [Nat.min_def]; split <;> omega) HSRC2.out (by rw [HDL.out, HS2.out]; omega) HD1.out ?_; intro w3 HG3 hg3)
  go_wp2
  go_ret
  have hln := HN.out
  have hll : (flatR (rs.take i ++ [r] ++ rs.drop i)).length = (n + 1) * 8 := by rw [flatR_length]; simp only [List.length_append, List.length_take, List.length_drop, List.length_cons, List.length_nil]; omega
  have hg0 : w2.grownBy w3 (some W.heap.size) := ⟨hg3.os, hg3.tape, hg3.output, hg3.size, hg3.block⟩
  rw [hln]
  refine ⟨W.heap.size, gcap, rfl, ⟨hll, .inr ⟨W.heap.size, gcap, _, rfl, hbase, HG3.out, hgc, HC1.out.2.2.2, ?_, ?_⟩⟩, grownBy_none (grownBy_trans2 HGS2.out hg0 (fun k e => by injection e with e; right; omega)) _, .inr rfl⟩
  · rw [List.size_toArray, length_splice _ _ _ (by rw [HDL.out, HS2.out]; omega), HS2.out]
  · have h := splice_grow (flatR (rs.take i)) (flatR (rs.drop i)) cur1 r.cells rfl (by rw [HPL.out]; exact HC1.out.2.1)
    rw [HPL.out, HDL.out] at h
    rw [flatR_append, flatR_append, flatR_one, ← h, show (i + 1) * 8 = i * 8 + 8 by omega]
    congr 1
    omega
end Go.Proofs.Ytdjnblkgeaphmaa
