/- Steps of scales: the program's walk. No condition but those that each theorem names. -/
import Derived.Test.YtdjnblkgeaphmaaStepP
import Derived.Test.YtdjnblkgeaphmaaScaleIW
import Derived.Deep.AppendLies
import Derived.Deep.RegionHeld3
import Derived.Test.YtdjnblkgeaphmaaKeepA
namespace Go.Proofs.Ytdjnblkgeaphmaa
open Go.RowKit Go.Sort Go.Maps Go.WideMaps

theorem infoNote : (Try.prog.info? 145).map (fun i => (i.zero, i.size, i.bytes)) = some (some (.agg #[.int .i64 0, .int .i64 0]), 2, 16) := by kernel_rfl
/-- What holds of a list of heights on its way. -/
def OutN (w : World) (base : Nat) (out : List (Int × Int)) (v : Value) (wr : World) : Prop :=
  wr.ownsRow base 145 2 v out.length ((frL out).map (Value.int .i64)) ∧ Below w.heap.size w wr ∧ base ≤ wr.heap.size
theorem OutN.next {w : World} {base : Nat} {out : List (Int × Int)} {v : Value} {wr w2 : World} (h : OutN w base out v wr) (hb : Below wr.heap.size wr w2) : OutN w base out v w2 :=
  ⟨own_below h.1 hb, ext_trans h.2.1 hb, Nat.le_trans h.2.2 hb.size⟩
theorem OutN.push {w : World} {base : Nat} {out : List (Int × Int)} {v : Value} {wr : World} (h : OutN w base out v wr) (hbase : w.heap.size ≤ base) {p q : Int} (v' : Value) (w3 : World) {o : Obj}
    (hown3 : w3.ownsRow base 145 2 v' (out.length + 1) ((frL out).map (Value.int .i64) ++ [.int .i64 p, .int .i64 q])) (hg : (wr.alloc o).grownBy w3 v.ownBlock) : OutN w base (out ++ [(p, q)]) v' w3 := by
  obtain ⟨hown, hbel, hsz⟩ := h
  refine ⟨by simpa [frL_snoc] using hown3, below_grown (ext_alloc hbel o) (hown.alloc o) hbase hg, ?_⟩
  have := hg.size
  simp at this
  omega

def okP (p : Int × Int) : Prop := smallI p.1 = true ∧ smallI p.2 = true
theorem klN_inj {p q : Int × Int} (hp : okP p) (hq : okP q) (h : klN p = klN q) : p = q := by
  have h1 := klN_key hp.1 hp.2
  have h2 := klN_key hq.1 hq.2
  rw [h] at h1
  have := keyedNote.inj h1 h2
  simp at this
  exact Prod.ext this.1 this.2
theorem klN_lit {p : Int × Int} (hp : okP p) : WideAt.IsKeyLit (klN p) := keyedNote.key (klN_key hp.1 hp.2)
theorem any_klN (x : Int × Int) (hx : okP x) : ∀ acc : List (Int × Int), (∀ p ∈ acc, okP p) → (acc.map klN).any (fun y => y.sameKey (klN x)) = acc.any (fun q => q == x)
  | [], _ => rfl
  | p :: acc, h => by
    have ih := any_klN x hx acc (fun q hq => h q (List.mem_cons_of_mem _ hq))
    simp only [List.map_cons, List.any_cons, ih]
    congr 1
    by_cases e : p = x
    · subst e
      rw [WideAt.sameKey_self (klN_lit hx)]
      simp
    · have : (p == x) = false := by simpa using e
      rw [this]
      exact sameKey_ne fun h' => e (klN_inj (h p (by simp)) hx h')
theorem fold_klN : ∀ (xs acc : List (Int × Int)), (∀ p ∈ xs, okP p) → (∀ p ∈ acc, okP p) → (xs.map klN).foldl addKey (acc.map klN) = (xs.foldl addP acc).map klN
  | [], acc, _, _ => rfl
  | x :: xs, acc, h, ha => by
    have hx := h x (by simp)
    have e : addKey (acc.map klN) (klN x) = (addP acc x).map klN := by
      unfold addKey addP
      rw [any_klN x hx acc ha]
      split <;> simp
    rw [List.map_cons, List.foldl_cons, List.foldl_cons, e]
    refine fold_klN xs (addP acc x) (fun p hp => h p (List.mem_cons_of_mem _ hp)) fun p hp => ?_
    unfold addP at hp
    split at hp
    · exact ha p hp
    · rcases List.mem_append.1 hp with h1 | h1
      · exact ha p h1
      · rw [List.mem_singleton.1 h1]; exact hx
theorem prs_ok {n k : Nat} (h1 : 1 ≤ n) (h2 : n ≤ 40) (hk : k ≤ n) : ∀ p ∈ prs n k, okP p := by
  intro p hp
  unfold prs at hp
  obtain ⟨j, hj, rfl⟩ := List.mem_map.1 hp
  have hj := List.mem_range.1 hj
  exact pr_small h1 h2 (by omega)
theorem size_prs {n : Nat} (h1 : 1 ≤ n) (h2 : n ≤ 40) : size (setOf (H := Unit) (.lit (.bool true)) ((prs n n).map klN)) = cntP n := by
  have hok := prs_ok h1 h2 (Nat.le_refl n)
  rw [size_setOf _ _ (fun x hx => by obtain ⟨p, hp, rfl⟩ := List.mem_map.1 hx; exact klN_lit (hok p hp))]
  have := fold_klN (prs n n) [] hok (by simp)
  simp only [List.map_nil] at this
  rw [this, List.length_map]
  rfl
theorem prs_step (n k : Nat) : (prs n (k + 1)).map klN = (prs n k).map klN ++ [klN (prAt n k)] := by unfold prs; rw [List.range_succ, List.map_append, List.map_append]; rfl
theorem hts_take {n k : Nat} {h : Int × Int} (hh : (hts n)[k]? = some h) : (hts n).take (k + 1) = (hts n).take k ++ [h] := by
  rw [List.take_add_one, hh]; rfl
theorem hts_at {n k : Nat} (h1 : 1 ≤ n) (h2 : n ≤ 40) (hk : k < n) : (srt n).getD k 0 ≤ 39 ∧ (srtI n)[k]? = some (((srt n).getD k 0 : Nat) : Int) ∧ (hts n)[k]? = some ((((srt n).getD k 0 : Nat) : Int), (((srt n).getD k 0 : Nat) : Int) + (octv ((srt n).getD k 0) : Int)) := by
  obtain ⟨m, rfl⟩ : ∃ m, n = m + 1 := ⟨n - 1, by omega⟩
  have hl := srt_len h2
  have a1 := List.all_eq_true.1 (srt_facts (n := m) (by omega)).2.2 ((srt (m + 1)).getD k 0) (by rw [List.getD_eq_getElem?_getD, List.getElem?_eq_getElem (by omega)]; exact List.getElem_mem _)
  simp only [decide_eq_true_eq] at a1
  refine ⟨by omega, ?_, ?_⟩
  · unfold srtI
    rw [List.getElem?_map, List.getD_eq_getElem?_getD, List.getElem?_eq_getElem (by omega)]; rfl
  · unfold hts
    rw [List.getElem?_append_left (by rw [List.length_map]; omega), List.getElem?_map, List.getD_eq_getElem?_getD, List.getElem?_eq_getElem (by omega)]; rfl
theorem hts_last {n : Nat} (h2 : n ≤ 40) : hts n = (hts n).take n ++ [(0, -1)] := by
  have hl := srt_len h2
  unfold hts
  rw [List.take_append_of_le_length (by rw [List.length_map]; omega), List.take_of_length_le (by rw [List.length_map]; omega)]

/-- Two cells of an old block. -/
def CN (b i j : Nat) (p q : Int) (V W : World) : Prop := W.cell? ⟨b, i, none⟩ = some (.int .i64 p) ∧ W.cell? ⟨b, j, none⟩ = some (.int .i64 q) ∧ Below V.heap.size V W
theorem CN.of {b i j : Nat} {p q : Int} {V W : World} (hb : b < V.heap.size) (h0 : V.cell? ⟨b, i, none⟩ = some (.int .i64 p)) (h1 : V.cell? ⟨b, j, none⟩ = some (.int .i64 q)) (k : Below V.heap.size V W) : CN b i j p q V W :=
  ⟨(k.cell (p := ⟨b, i, none⟩) hb).trans h0, (k.cell (p := ⟨b, j, none⟩) hb).trans h1, k⟩
/-- The cells of four numbers in an old block, and the map. -/
def MpN (B b k : Nat) (n : Nat) (W : World) : Prop := W.ownsMap (H := Unit) Try.prog 145 (plainElem Try.prog 4) b k (setOf (.lit (.bool true)) ((prs n k).map klN)) ∧ B ≤ b
set_option maxRecDepth 100000 in
set_option maxHeartbeats 4000000 in
theorem iStep_good (n : Nat) (w : World) (h1 : 1 ≤ n) (h2 : n ≤ 40) :
    Calls Try.prog 50 #[.int .i64 (n : Int)] w fun e w' => e = .returned (.tuple #[.int .i64 (cntP n : Int), .int .i64 0]) ∧ Below w.heap.size w w' := by
  obtain ⟨ti, hi, hz0, hz1, hz2⟩ := info_parts infoNote
  have HI := Lib.hid hi
  clear hi
  have HIN : Hid (inR (n : Int) 1 40 = true) := inR_true.2 ⟨by omega, by omega⟩
  have hln := Lib.hid (srtI_len h2)
  have hmm := @run_makeMap Try.prog
  go_enter Try.func50, Try.ntmps50
  go_wp2_with (first | (go_at_call 110; (with_reducible refine (within_is HIN.out _).mono ?_); rintro e w' ⟨rfl, rfl⟩))
  refine (scaleNotes_any n _ h1 h2).mono ?_
  rintro e w1 ⟨A, c, rfl, hw, hb⟩
  rw [hln.out]
  have HW := Lib.hid hw.rd
  clear hw
  go_wp2_with fail
  go_loopw [15, 4] (fun t v wr => ∃ (k : Nat), k ≤ n ∧ t = .int .i64 k ∧ Hid (OutN w1 w1.heap.size ((hts n).take k) v wr)) (fun t _ _ => n - (intOf t).toNat)
  case atStart => exact ⟨0, by omega, rfl, own_nil, Below.refl _ _, Nat.le_refl _⟩
  case round =>
    obtain ⟨k, hk, rfl, HV⟩ := hrel
    have hbe := HV.out.2.1
    have htl : ((hts n).take k).length = k := by rw [List.length_take, (hts_small (j := 0) h1 h2 (by omega)).1]; omega
    by_cases hlt : k < n
    · obtain ⟨g, off, rfl, hg, hc⟩ := HW.out (by rw [hln.out]; omega)
      obtain ⟨a39, ea, eh⟩ := hts_at h1 h2 hlt
      have c1 := (hbe.cell (p := ⟨g, off + k, none⟩) hg).trans (hc k _ ea)
      have HT := Lib.hid (hts_take eh)
      have HNo := Lib.hid (fun W : World => noteOf_any ((srt n).getD k 0) W a39)
      have ho := octv_le a39
      have i0 : (0 : Int) ≤ (k : Int) := by omega
      have i1 : (k : Int) < (n : Int) := by omega
      clear hc ea eh
      generalize (srt n).getD k 0 = a at *
      generalize (hts n).take k = L at *
      have hLn : L.length ≤ 40 := by omega
      clear htl
      go_wp2_with fail
      refine (HNo.out _).mono ?_
      rintro e w2 ⟨rfl, hb2, _⟩
      have HV1 := Lib.hid (OutN.next HV.out hb2)
      have hown := HV1.out.1
      have hbz := HV1.out.2.2
      go_wp2_with (at_builtin; refine wpList_append_own _ rfl _ _ 143 rfl w1.heap.size 145 ti (.agg #[.int .i64 0, .int .i64 0]) 2 16 Try.underlying143 HI.out hz0 hz1 hz2 rfl (by decide) _ _ _ rfl (hown.alloc _) ⟨w2.heap.size, 0, none⟩ 1 1 [.int .i64 (a : Int), .int .i64 ((a : Int) + (octv a : Int))] rfl rfl ?c1 ?c2 ?c3 ?c4 ?c5 ?_)
      case c1 => exact news_row w2 _ _ rfl
      case c2 => simp [Value.oneCell']
      case c3 => unfold maxLen; omega
      case c4 => omega
      case c5 => simp; omega
      intro v' w3 hown3 hgrow _
      have HV3 : OutN w1 w1.heap.size ((hts n).take (k + 1)) v' w3 := by
        rw [HT.out]
        exact OutN.push HV1.out (Nat.le_refl _) _ _ hown3 hgrow
      clear hown3 hgrow hown
      go_wp2
      go_roundw
      case rel => exact ⟨k + 1, by omega, by go_num, HV3⟩
      case measure => simp [intOf]; omega
    · obtain rfl : k = n := by omega
      have hl2 := Lib.hid (hts_last h2)
      have h0 := hts_get (j := 0) h1 h2 (by omega)
      have e0 := (hts_small (j := 0) h1 h2 (by omega)).2.2.2
      rw [e0] at h0
      have h00 : ((hts k).take k)[0]? = some (0, 0) := by rw [List.getElem?_take, if_pos (by omega)]; exact h0
      obtain ⟨g0, g1⟩ := frL_get h00
      unfold OutN at HV
      rw [htl] at HV
      obtain ⟨g, cap, rfl, hg1, hg2, hcp, hcm, hcl⟩ := own_at HV.out.1 (by omega)
      have C0 := hcl 0 _ (by rw [List.getElem?_map, show 0 = 0 * 2 by rfl, g0]; rfl)
      have C1 := hcl 1 _ (by rw [List.getElem?_map, show 1 = 0 * 2 + 1 by rfl, g1]; rfl)
      have HG0 : Hid (((frL ((hts k).take k)).map (Value.int .i64))[0]? = some (.int .i64 0)) := by unfold Hid; rw [List.getElem?_map, show 0 = 0 * 2 by rfl, g0]; rfl
      have HG1 : Hid (((frL ((hts k).take k)).map (Value.int .i64))[1]? = some (.int .i64 0)) := by unfold Hid; rw [List.getElem?_map, show 1 = 0 * 2 + 1 by rfl, g1]; rfl
      have hCC := Lib.hid (fun (W : World) (k : Below wr.heap.size wr W) => And.intro (CN.of hg2 C0 C1 k).1 (CN.of hg2 C0 C1 k).2.1)
      clear h0 e0 h00 g0 g1 hcl
      have hkk : ((hts k).take k).length = k := htl
      have HL := Lib.hid htl
      clear htl hbe
      have ik : 0 < k := by omega
      generalize hLL : (hts k).take k = L at *
      go_wp2_with fail
      go_region_held3 (fun w' => w'.cell? ⟨g, 0, none⟩ = some (.int .i64 0) ∧ w'.cell? ⟨g, 1, none⟩ = some (.int .i64 0))
        (first | exact hCC.out _ (ext_drew (Below.refl _ _)) | exact hCC.out _ (ext_alloc (ext_drew (Below.refl _ _)) _) | exact ⟨hkeep _ _ HG0.out, hkeep _ _ HG1.out⟩)
        ((refine step_append_keep _ (by rfl) _ _ _ (by rfl) w1.heap.size 145 ti (.agg #[.int .i64 0, .int .i64 0]) 2 16 Try.underlying143 HI.out hz0 hz1 hz2 rfl (by decide) g _ _ _ (by rfl) (own_below HV.out.1 (ext_alloc (ext_drew (Below.refl _ _)) _)) _ 1 1 [.int .i64 0, .int .i64 (-1)] (by rfl) (by rfl) (news_row _ _ _ rfl) (by simp [Value.oneCell']) (by omega) (by unfold maxLen; omega) (by omega) (by simp; omega) ?_; intro g2 cap2 w6 hown3 hgrow hat hlt hkeep))
      have HB6 : Hid (Below w1.heap.size w1 w6) := below_grown (ext_alloc (ext_drew HV.out.2.1) _) (own_below HV.out.1 (ext_alloc (ext_drew (Below.refl _ _)) _)) (Nat.le_refl _) hgrow
      have HO6 : Hid (w6.ownsRow w1.heap.size 145 2 (.slice (some ⟨g2, 0, none⟩) (k + 1) cap2) (k + 1) ((frL (hts k)).map (Value.int .i64))) := by
        unfold Hid
        rw [hl2.out, frL_snoc]
        simpa using hown3
      have hg2lt := hlt
      have HWW := Lib.hid (ext_trans hb HB6.out)
      clear hown3 hgrow hat hkeep hCC HG0 HG1 hLL hlt HV hl2
      obtain ⟨n, hnk⟩ : ∃ n, n = k := ⟨_, rfl⟩
      have HE := Lib.hid hnk
      clear hnk
      go_wp2_with fail
      have HM0 : Hid (MpN w6.heap.size w6.heap.size 0 k (w6.alloc (.map #[] 0))) := ⟨World.ownsMap_made _ _ _ _, Nat.le_refl _⟩
      have hms : w6.heap.size < (w6.alloc (.map #[] 0)).heap.size := by simp
      have HO7 := Lib.hid (own_below HO6.out (ext1 w6 (.map #[] 0)))
      have HB7 := Lib.hid (ext_alloc HWW.out (.map #[] 0))
      generalize w6.alloc (.map #[] 0) = w7 at *
      go_loopw [8] (fun t wr => ∃ (j : Nat), j ≤ k ∧ t = .int .i64 ((j : Int) + 1) ∧ Hid (MpN w6.heap.size w6.heap.size j k wr ∧ wr.ownsRow w1.heap.size 145 2 (.slice (some ⟨g2, 0, none⟩) (k + 1) cap2) (k + 1) ((frL (hts k)).map (Value.int .i64)) ∧ Below w.heap.size w wr)) (fun t _ => k + 1 - (intOf t).toNat)
      case atStart => exact ⟨0, by omega, rfl, HM0.out, HO7.out, HB7.out⟩
      case round =>
        obtain ⟨j, hj, rfl, HR⟩ := hrel
        clear HM0 HO7 HB7
        by_cases hlt : j < k
        · have e1 := hts_get (j := j) h1 h2 (by omega)
          have e2 := hts_get (j := j + 1) h1 h2 (by omega)
          obtain ⟨_, s1, s2, _⟩ := hts_small (j := j) h1 h2 (by omega)
          obtain ⟨_, s3, s4, _⟩ := hts_small (j := j + 1) h1 h2 (by omega)
          have hpok := pr_small h1 h2 hlt
          have HK : Hid (keyOf Try.prog 145 (.agg #[.int .i64 (((hts k).getD (j + 1) (0, 0)).1 - ((hts k).getD j (0, 0)).1), .int .i64 (((hts k).getD (j + 1) (0, 0)).2 - ((hts k).getD j (0, 0)).2)]) = some (klN (prAt k j))) := klN_key hpok.1 hpok.2
          have HST := Lib.hid (prs_step k j)
          clear hpok
          obtain ⟨s1a, s1b⟩ := smallI_true s1
          obtain ⟨s2a, s2b⟩ := smallI_true s2
          obtain ⟨s3a, s3b⟩ := smallI_true s3
          obtain ⟨s4a, s4b⟩ := smallI_true s4
          obtain ⟨f0, f1⟩ := frL_get e1
          obtain ⟨f2, f3⟩ := frL_get e2
          have c0 := own_cells HR.out.2.1 (by rw [List.getElem?_map, f0]; rfl)
          have c1 := own_cells HR.out.2.1 (by rw [List.getElem?_map, f1]; rfl)
          have c2 := own_cells HR.out.2.1 (by rw [List.getElem?_map, f2]; rfl)
          have c3 := own_cells HR.out.2.1 (by rw [List.getElem?_map, f3]; rfl)
          have hgb : g2 < wr.heap.size := (HR.out.2.1.lt g2 rfl).2
          have hne : g2 ≠ w6.heap.size := by omega
          clear e1 e2 s1 s2 s3 s4 f0 f1 f2 f3
          generalize (hts k).getD j (0, 0) = p at *
          generalize (hts k).getD (j + 1) (0, 0) = q at *
          obtain ⟨p1, p2⟩ := p
          obtain ⟨q1, q2⟩ := q
          simp only at c0 c1 c2 c3 s1a s1b s2a s2b s3a s3b s4a s4b HK
          have i0 : (0 : Int) ≤ (j : Int) := by omega
          have i1 : (j : Int) < (k : Int) + 1 := by omega
          have i2 : (0 : Int) ≤ (j : Int) + 1 := by omega
          have i3 : (j : Int) + 1 < (k : Int) + 1 := by omega
          have HM := Lib.hid HR.out.1
          have ww : IntKind.i64.wrap ((j : Int) + 1) = (j : Int) + 1 := IntWalk.i64_in _ (by omega)
          have wx : IntKind.i64.wrap ((j : Int) + 1 - 1) = (j : Int) := by rw [show (j : Int) + 1 - 1 = j by omega]; exact IntWalk.i64_in _ (by omega)
          have wy : IntKind.i64.wrap (j : Int) = (j : Int) := IntWalk.i64_in _ (by omega)
          have wn : ((j : Int) + 1).toNat = j + 1 := by omega
          have wz1 : IntKind.i64.wrap (q1 - p1) = q1 - p1 := IntWalk.i64_in _ (by omega)
          have wz2 : IntKind.i64.wrap (q2 - p2) = q2 - p2 := IntWalk.i64_in _ (by omega)
          obtain ⟨w8, hrun, hown8, hgr⟩ := (HM.out.1.drew).update (H := Unit) keyedNote Try.underlying147 (by unfold maxLen; omega) HK.out (plainElem_bool Try.underlying4 true)
          have HN8 := Lib.hid hown8
          have HG8 := Lib.hid hgr
          clear hown8 hgr
          go_wp2_with fail
          go_region_held3 (fun w' => w'.cell? ⟨g2, j * 2, none⟩ = some (.int .i64 p1) ∧ w'.cell? ⟨g2, j * 2 + 1, none⟩ = some (.int .i64 p2) ∧ w'.cell? ⟨g2, (j + 1) * 2, none⟩ = some (.int .i64 q1) ∧ w'.cell? ⟨g2, (j + 1) * 2 + 1, none⟩ = some (.int .i64 q2))
            (first | exact ⟨c0, c1, c2, c3⟩ | exact ⟨(HG8.out.cell_far _ hgb (fun e => hne (Option.some.inj e))).trans c0, (HG8.out.cell_far _ hgb (fun e => hne (Option.some.inj e))).trans c1, (HG8.out.cell_far _ hgb (fun e => hne (Option.some.inj e))).trans c2, (HG8.out.cell_far _ hgb (fun e => hne (Option.some.inj e))).trans c3⟩)
            (fail)
          have HNM : Hid (MpN w6.heap.size w6.heap.size (j + 1) k w8) := by
            refine ⟨?_, Nat.le_refl _⟩
            rw [HST.out, setOf_snoc]
            exact HN8.out
          have HR8 : Hid (w8.ownsRow w1.heap.size 145 2 (.slice (some ⟨g2, 0, none⟩) (k + 1) cap2) (k + 1) ((frL (hts k)).map (Value.int .i64)) ∧ Below w.heap.size w w8) :=
            ⟨World.ownsRow.kept (w := wr.drew) HR.out.2.1 HG8.out (.inr fun e => hne (Option.some.inj e)), (ext_drew HR.out.2.2).grown HG8.out (ext_drew HR.out.2.2).size (fun b hb => by injection hb with hb; have := HWW.out.size; omega)⟩
          go_wp2
          go_roundw
          case rel => exact ⟨j + 1, by omega, by go_num, HNM.out, HR8.out.1, HR8.out.2⟩
          case measure => simp [intOf]; omega
        · obtain rfl : j = k := by omega
          have HSZ := Lib.hid (size_prs h1 h2)
          have HM := Lib.hid HR.out.1.1
          go_wp2_with (at_len; refine wpList_len_own _ rfl _ 147 rfl _ _ Try.underlying147 _ w6.heap.size _ _ rfl HM.out ?_)
          rw [HSZ.out]
          go_wp2
          go_ret2
          exact ⟨rfl, HR.out.2.2⟩
end Go.Proofs.Ytdjnblkgeaphmaa
