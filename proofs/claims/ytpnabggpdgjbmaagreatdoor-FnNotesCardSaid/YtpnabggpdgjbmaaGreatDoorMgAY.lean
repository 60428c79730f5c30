/- Parts of the proof, merged: DropNtW AddNtW. No condition but those that each theorem names. -/
import Derived.Test.YtpnabggpdgjbmaaGreatDoorMgAX
import Derived.Test.YtpnabggpdgjbmaaGreatDoorMgAN
import Derived.Deep.RegionHeld3
namespace Go.Proofs.YtpnabggpdgjbmaaGreatDoor
open Go.RowKit Go.Sort
theorem map_eraseR (rs : List NtR) (k : Nat) : (rs.eraseIdx k).map NtR.x = (rs.map NtR.x).eraseIdx k := by
  rw [List.eraseIdx_eq_take_drop_succ, List.eraseIdx_eq_take_drop_succ, List.map_append, List.map_take, List.map_drop]
def dnX (xs : List Nt) (s : ByteArray) : List Nt := if nnC xs s = 0 then xs.eraseIdx (fndN s xs 0).toNat else []
/-- A row of one's own whose notes have their terms elsewhere. -/
structure OutR8 (w : World) (base : Nat) (rs : List NtR) (v : Value) (W : World) : Prop where
  row : W.ownsRow base 31 8 v rs.length (flatR rs)
  bel : Below w.heap.size w W
  low : w.heap.size ≤ base
  hi : base ≤ W.heap.size
theorem OutR8.start (w : World) : OutR8 w w.heap.size [] (.slice (some ⟨w.heap.size, 0, none⟩) 0 0) (w.alloc (.cells #[] 31)) :=
  let h := OutNt.start0 w
  ⟨h.row, h.bel, h.low, h.hi⟩
theorem OutR8.next {w : World} {base : Nat} {rs : List NtR} {v : Value} {W W' : World} (h : OutR8 w base rs v W) (hb : Below W.heap.size W W') : OutR8 w base rs v W' := ⟨own_below h.row hb, ext_trans h.bel hb, h.low, Nat.le_trans h.hi hb.size⟩
theorem OutR8.push {w : World} {base : Nat} {rs qs : List NtR} {v v' : Value} {W W' : World} {m : Nat} (h : OutR8 w base rs v W) (hm : qs.length = m) (hown : W'.ownsRow base 31 8 v' (rs.length + m) (flatR rs ++ flatR qs)) (hg : W.grownBy W' v.ownBlock) : OutR8 w base (rs ++ qs) v' W' := by
  subst hm
  exact ⟨by rw [flatR_append, List.length_append]; exact hown, below_grown h.bel h.row h.low hg, h.low, Nat.le_trans h.hi hg.size⟩
theorem OutR8.rd {w : World} {base : Nat} {rs : List NtR} {v : Value} {W : World} (h : OutR8 w base rs v W) (ht : ∀ r ∈ rs, RdT w w.heap.size r.T r.c r.x.terms) : ∃ A c, v = .slice A rs.length c ∧ RdR W W.heap.size A rs := by
  rcases h.row.2 with ⟨rfl, h0⟩ | ⟨g, cap, cur, rfl, hg, hh, hc, hm, hs, htk⟩
  · exact ⟨none, 0, by rw [h0], fun hn => by omega⟩
  · have hlt : g < W.heap.size := (Array.getElem?_eq_some_iff.1 hh).1
    refine ⟨_, cap, rfl, fun _ => ⟨g, 0, rfl, hlt, fun j r hr => ⟨fun m u hu => ?_, (ht r (List.mem_of_getElem? hr)).next h.bel⟩⟩⟩
    have := h.row.cells (g := g) rfl _ _ (flatR_get rs j r m u hr hu)
    rw [Addr.add_lit, ← Nat.add_assoc] at this
    exact this
theorem RdR.news {w : World} {B b off : Nat} {rs : List NtR} (hc : ∀ j r, rs[j]? = some r → RowAt w b (off + j * 8) r.cells ∧ RdT w B r.T r.c r.x.terms) (k m : Nat) : ∀ i u, (flatR ((rs.drop k).take m))[i]? = some u → w.cell? ((⟨b, off + k * 8, none⟩ : Addr).add i) = some u := fun i u hu => by
  obtain ⟨r, hr, hv⟩ := flatR_at _ _ _ hu
  rw [List.getElem?_take] at hr
  split at hr
  · rw [List.getElem?_drop] at hr
    have := (hc _ r hr).1 _ _ hv
    rw [Addr.add_lit, show off + k * 8 + i = off + (k + i / 8) * 8 + i % 8 by omega]
    exact this
  · cases hr
set_option maxRecDepth 100000 in
set_option maxHeartbeats 2000000 in
theorem iDropNote_any (A : Option Addr) (c : Nat) (xs : List Nt) (s : ByteArray) (w : World) (hr : RdNt w w.heap.size A xs) (hf : ∀ x ∈ xs, x.fits) (hl : xs.length ≤ 1048576) (ht : ∀ x ∈ xs, x.terms.length ≤ 1048576) :
    Calls Tryz.prog 9 #[.slice A xs.length c, .string s] w (RetNtL w (dnX xs s) (nnC xs s)) := by
  have HV : Hid (∀ W : World, Below w.heap.size w W → Calls Tryz.prog 28 #[.slice A xs.length c] W fun e w' => e = .returned (.bool (validNt xs)) ∧ Below W.heap.size W w') := fun W hb => iValidNotes_any A c xs W (hr.next hb) hf (by unfold maxLen; omega)
  have HC : Hid (nnC xs s = if validNt xs = true then (if fndN s xs 0 < 0 then 3 else 0) else 1) := rfl
  have HX : Hid (dnX xs s = if nnC xs s = 0 then xs.eraseIdx (fndN s xs 0).toNat else []) := rfl
  cases hv : validNt xs
  · rw [hv] at HV HC
    have h1 : nnC xs s = 1 := HC.out
    have h2 : dnX xs s = [] := by rw [HX.out, if_neg (by omega)]
    rw [h1, h2]
    clear hv hr hf ht HC h1 HX h2
    go_enter Tryz.func9, Tryz.ntmps9
    go_wp2_with fail
    refine (HV.out _ (Below.refl _ _)).mono ?_
    rintro e w1 ⟨rfl, hb1⟩
    go_wp2
    go_ret2
    exact RetNtL.nil_ 1 hb1
  · have HP : Hid (∀ W : World, Below w.heap.size w W → Calls Tryz.prog 35 #[.slice A xs.length c, .string s] W fun e w' => ∃ k : Nat, k ≤ xs.length ∧ Spl s xs k k ∧ e = .returned (.tuple #[.int .i64 (k : Int), .bool (fdB s xs k)]) ∧ Below W.heap.size W w') := fun W hb => placeOf_any A c xs s W (hr.next hb) hl (validNt_mono hv s)
    have HQ := Lib.hid (fun (k : Nat) (h1 : k ≤ xs.length) (h2 : Spl s xs k k) => fndN_spl hv h2 h1)
    obtain ⟨rs, hmap, hrd⟩ := hr.rows
    have hlen : rs.length = xs.length := by rw [← hmap, List.length_map]
    have HCP : Hid (∀ W : World, Below w.heap.size w W → Calls Tryz.prog 37 #[.slice A xs.length c] W (RetNts W xs)) := fun W hb => by
      have := copyNotes_any A c rs W (hrd.next hb) (by omega) (fun r hr' => ht _ (by rw [← hmap]; exact List.mem_map_of_mem hr'))
      rwa [hmap, hlen] at this
    unfold RetNts at HCP
    rw [hv] at HV HC
    clear hv hr hf ht hrd hmap hlen
    go_enter Tryz.func9, Tryz.ntmps9
    go_wp2_with fail
    refine (HV.out _ (Below.refl _ _)).mono ?_
    rintro e w1 ⟨rfl, hb1⟩
    have HB := Lib.hid hb1
    clear hb1
    go_wp2_with fail
    refine (HP.out _ HB.out).mono ?_
    rintro e w2 ⟨k, hk, hsp, rfl, hb2⟩
    have HB := Lib.hid (ext_trans HB.out hb2)
    have hfn := HQ.out k hk hsp
    clear hb2 hsp
    cases hfd : fdB s xs k
    · rw [hfd, if_neg (by simp)] at hfn
      have h1 : nnC xs s = 3 := by rw [HC.out, hfn]; rfl
      have h2 : dnX xs s = [] := by rw [HX.out, if_neg (by omega)]
      have H1 := Lib.hid h1
      have H2 := Lib.hid h2
      clear h1 h2 hfn hfd
      go_wp2
      go_ret2
      rw [H1.out, H2.out]
      exact RetNtL.nil_ 3 HB.out
    · rw [hfd, if_pos rfl] at hfn
      have h1 : nnC xs s = 0 := by rw [HC.out, hfn, if_pos trivial, if_neg (by omega)]
      have h2 : dnX xs s = xs.eraseIdx k := by rw [HX.out, if_pos h1, hfn]; rfl
      have H1 := Lib.hid h1
      have H2 := Lib.hid h2
      have hkl : k < xs.length := by
        rcases Nat.lt_or_ge k xs.length with g | g
        · exact g
        · unfold fdB at hfd; rw [List.getElem?_eq_none g] at hfd; simp at hfd
      clear h1 h2 hfn hfd
      go_wp2_with fail
      refine (HCP.out _ HB.out).mono ?_
      rintro e w3 ⟨qs, own, v, rfl, hq, hO⟩
      have hql : qs.length = xs.length := by rw [← hq, List.length_map]
      have HQM := Lib.hid hq
      obtain ⟨g, cap, rfl⟩ := hO.form (by omega)
      obtain ⟨n1, hn1⟩ : ∃ n1, qs.length = n1 + 1 := ⟨qs.length - 1, by omega⟩
      have HO := Lib.hid hO
      rw [hn1] at HO
      have HN1 := Lib.hid hn1
      have HDL := Lib.hid (delete_any w2 w2.heap.size g cap n1 k (k + 1) qs own w3 HO.out hn1 (by omega) rfl)
      rw [Int.natCast_add] at HDL
      have hkk : (k : Int) + 1 ≤ 1048576 := by omega
      rw [hn1]
      clear hq hO hql hn1
      go_wp2_with fail
      refine HDL.out.mono ?_
      rintro e w4 ⟨own', rfl, hO4⟩
      have HO4 := Lib.hid hO4
      clear hO4
      go_wp2
      go_ret2
      rw [H1.out, H2.out]
      exact OutNt.retL HO4.out HB.out 0 (by rw [← HQM.out, map_eraseR])
set_option maxRecDepth 100000 in
set_option maxHeartbeats 2000000 in
theorem sDropNote_any (A : Option Addr) (c : Nat) (xs : List Nt) (s : ByteArray) (w : World) (hr : RdNt w w.heap.size A xs) (hf : ∀ x ∈ xs, x.fits) (hl : xs.length ≤ 1048576) (ht : ∀ x ∈ xs, x.terms.length ≤ 1048576) (hc : xs.length ≤ c) (hcm : c ≤ maxLen) :
    Calls Tryz.prog 10 #[.slice A xs.length c, .string s] w (RetNtL w (dnX xs s) (nnC xs s)) := by
  obtain ⟨ti, hi, hz0, hz1, hz2⟩ := info_parts infoNtR
  have HI := Lib.hid hi
  have HV : Hid (∀ W : World, Below w.heap.size w W → Calls Tryz.prog 39 #[.slice A xs.length c] W fun e w' => e = .returned (.bool (validNt xs)) ∧ Below W.heap.size W w') := fun W hb => l27Ok_any A c xs W (hr.next hb) hf (by unfold maxLen; omega)
  have HC : Hid (nnC xs s = if validNt xs = true then (if fndN s xs 0 < 0 then 3 else 0) else 1) := rfl
  have HX : Hid (dnX xs s = if nnC xs s = 0 then xs.eraseIdx (fndN s xs 0).toNat else []) := rfl
  clear hi
  cases hv : validNt xs
  · rw [hv] at HV HC
    have h1 : nnC xs s = 1 := HC.out
    have h2 : dnX xs s = [] := by rw [HX.out, if_neg (by omega)]
    rw [h1, h2]
    clear hv hr hf ht HC h1 HX h2
    go_enter Tryz.func10, Tryz.ntmps10
    go_wp2_with fail
    refine (HV.out _ (Below.refl _ _)).mono ?_
    rintro e w1 ⟨rfl, hb1⟩
    go_wp2
    go_ret2
    exact RetNtL.nil_ 1 hb1
  · have HP : Hid (∀ W : World, Below w.heap.size w W → Calls Tryz.prog 41 #[.slice A xs.length c, .string s] W fun e w' => e = .returned (.int .i64 (fndN s xs 0)) ∧ Below W.heap.size W w') := fun W hb => l27Find_any A c xs s W (hr.next hb) (by unfold maxLen; omega)
    have HQ := Lib.hid (fndN_bd s xs)
    obtain ⟨rs, hmap, hrd⟩ := hr.rows
    have hlen : rs.length = xs.length := by rw [← hmap, List.length_map]
    have HCP : Hid (∀ (B : Option Addr) (d : Nat) (qs : List NtR) (W : World), (∀ q ∈ qs, q ∈ rs) → qs.length ≤ xs.length → RdR W W.heap.size B qs → Calls Tryz.prog 42 #[.slice B qs.length d] W (RetNts W (qs.map NtR.x))) := fun B d qs W hq1 hq2 h => l27Copy_any B d qs W h (by omega) (fun r hr' => ht _ (by rw [← hmap]; exact List.mem_map_of_mem (hq1 r hr')))
    unfold RetNts at HCP
    have HMP := Lib.hid hmap
    have HRD := Lib.hid hrd
    rw [hv] at HV HC
    have hc' : c ≤ 9223372036854775807 := by unfold maxLen at hcm; omega
    clear hv hr hf ht hrd hmap hcm
    go_enter Tryz.func10, Tryz.ntmps10
    go_wp2_with fail
    refine (HV.out _ (Below.refl _ _)).mono ?_
    rintro e w1 ⟨rfl, hb1⟩
    have HB := Lib.hid hb1
    clear hb1
    go_wp2_with fail
    refine (HP.out _ HB.out).mono ?_
    rintro e w2 ⟨rfl, hb2⟩
    have HB := Lib.hid (ext_trans HB.out hb2)
    clear hb2
    by_cases hneg : fndN s xs 0 < 0
    · have h1 : nnC xs s = 3 := by rw [HC.out, if_pos trivial, if_pos hneg]
      have h2 : dnX xs s = [] := by rw [HX.out, if_neg (by omega)]
      have H1 := Lib.hid h1
      have H2 := Lib.hid h2
      clear h1 h2
      generalize fndN s xs 0 = R at *
      go_wp2
      go_ret2
      rw [H1.out, H2.out]
      exact RetNtL.nil_ 3 HB.out
    · have h1 : nnC xs s = 0 := by rw [HC.out, if_pos trivial, if_neg hneg]
      obtain ⟨k, hkR⟩ : ∃ k : Nat, fndN s xs 0 = (k : Int) := ⟨(fndN s xs 0).toNat, by omega⟩
      have h2 : dnX xs s = xs.eraseIdx k := by rw [HX.out, if_pos h1, hkR]; rfl
      have H1 := Lib.hid h1
      have H2 := Lib.hid h2
      have hkl : k < xs.length := by have := HQ.out; rw [hkR] at this; omega
      rw [hkR] at hneg ⊢
      clear h1 h2 hkR HQ HP HV HC HX
      obtain ⟨b, off, rfl, hb, hcR⟩ := (HRD.out.next HB.out) (by omega)
      have HCR := Lib.hid hcR
      have HO0 := Lib.hid (OutR8.start w2)
      have hown0 := HO0.out.row
      have hkc : k ≤ c := by omega
      have hk1c : k + 1 ≤ c := by omega
      have i0 : (0 : Int) ≤ (k : Int) := by omega
      have e1 : (k : Int) + 1 ≤ (xs.length : Int) := by omega
      have hlk : (flatR ((rs.drop 0).take k)).length = k * 8 := by rw [flatR_length, List.length_take, List.drop_zero]; omega
      have hlk2 : ((rs.drop 0).take k).length = k := by rw [List.length_take, List.drop_zero]; omega
      have hlen1 : rs.length ≤ xs.length := by omega
      have hlen2 : xs.length ≤ rs.length := by omega
      have HN0 := Lib.hid (fun i u hu => RdR.news HCR.out 0 k i u hu)
      have HLK := Lib.hid hlk
      have HLK2 := Lib.hid hlk2
      clear hcR hlk hlk2 hlen
      have hnews : ∀ j u, (flatR ((rs.drop 0).take k))[j]? = some u → (w2.alloc (.cells #[] 31)).cell? ((⟨b, off, none⟩ : Addr).add j) = some u := fun j u hu => by
        have h := HN0.out j u hu
        rw [Nat.zero_mul, Nat.add_zero] at h
        rw [← h]
        exact (ext1 w2 _).cell (p := (⟨b, off, none⟩ : Addr).add j) (by rw [Addr.add_lit]; exact hb)
      have HNW := Lib.hid hnews
      clear hnews
      go_wp2_with (at_builtin; go_must (refine wpList_append_own _ rfl _ _ 24 rfl w2.heap.size 31 ti (ntV ByteArray.empty 0 0 0 none 0 0 0 0 0) 8 88 Tryz.underlying24 HI.out hz0 hz1 hz2 rfl (by decide) _ _ _ rfl hown0 ⟨b, off, none⟩ k c (flatR ((rs.drop 0).take k)) rfl HLK.out HNW.out (flatR_one8 _) ?c3 ?c4 ?c5 ?_))
      case c3 => unfold maxLen; simp; omega
      case c4 => simp; omega
      case c5 => simp
      intro v3 w3 hown3 hgrow _
      have HO1 : Hid (OutR8 w2 w2.heap.size ([] ++ (rs.drop 0).take k) v3 w3) := OutR8.push HO0.out HLK2.out (by simpa using hown3) hgrow
      rw [List.nil_append, List.drop_zero] at HO1
      have hb3 : Below w.heap.size w w3 := ext_trans HB.out HO1.out.bel
      have HB3 := Lib.hid hb3
      have hb2lt : b < w2.heap.size := hb
      have hs23 := HO1.out.bel.size
      clear hown3 hgrow hown0 HO0 HNW HN0 HLK HLK2 hb3
      obtain ⟨A3, c3, rfl⟩ := own_slice HO1.out.row
      have hown1 := HO1.out.row
      have hl1 : (rs.take k).length = k := by rw [List.length_take]; omega
      rw [hl1] at hown1 ⊢
      have hlk : (flatR ((rs.drop (k + 1)).take (xs.length - (k + 1)))).length = (xs.length - (k + 1)) * 8 := by rw [flatR_length, List.length_take, List.length_drop]; omega
      have HLK := Lib.hid hlk
      have hnews : ∀ j u, (flatR ((rs.drop (k + 1)).take (xs.length - (k + 1))))[j]? = some u → w3.cell? ((⟨b, off + (k + 1) * 8, none⟩ : Addr).add j) = some u := fun j u hu => by
        have h := RdR.news HCR.out (k + 1) (xs.length - (k + 1)) j u hu
        rw [← h]
        exact HO1.out.bel.cell (p := (⟨b, off + (k + 1) * 8, none⟩ : Addr).add j) (by rw [Addr.add_lit]; exact hb)
      have HNW := Lib.hid hnews
      have HL1 := Lib.hid hl1
      have htr : ∀ r ∈ rs, RdT w2 w2.heap.size r.T r.c r.x.terms := fun r hr' => by
        obtain ⟨j, hj, rfl⟩ := List.getElem_of_mem hr'
        exact (HCR.out j _ (List.getElem?_eq_getElem hj)).2
      have HTR := Lib.hid htr
      clear hnews hlk hl1 htr
      by_cases hck : c = k + 1
      · subst hck
        go_wp2_with (at_builtin; go_must (refine wpList_append_own _ rfl _ _ 24 rfl w2.heap.size 31 ti (ntV ByteArray.empty 0 0 0 none 0 0 0 0 0) 8 88 Tryz.underlying24 HI.out hz0 hz1 hz2 rfl (by decide) _ _ _ rfl hown1 ⟨b, off, none⟩ 0 0 [] rfl rfl (fun _ _ h => by simp at h) (fun _ h => by simp at h) ?d3 ?d4 ?d5 ?_))
        case d3 => unfold maxLen; omega
        case d4 => omega
        case d5 => omega
        intro v4 w4 hown4 hgrow _
        have HO2 : Hid (OutR8 w2 w2.heap.size (rs.take k ++ []) v4 w4) := OutR8.push (m := 0) HO1.out rfl (by rw [HL1.out]; simpa [flatR] using hown4) (by rw [HL1.out]; exact hgrow)
        rw [List.append_nil, ← show rs.eraseIdx k = rs.take k by rw [List.eraseIdx_eq_take_drop_succ, List.drop_eq_nil_of_le (by omega), List.append_nil]] at HO2
        clear hown4 hgrow
        have hel : (rs.eraseIdx k).length = k := by rw [List.length_eraseIdx_of_lt (by omega)]; omega
        obtain ⟨A4, c4, rfl, hrd4⟩ := HO2.out.rd (fun r hr' => HTR.out r (List.mem_of_mem_eraseIdx hr'))
        have HC4 := Lib.hid (HCP.out A4 c4 (rs.eraseIdx k) w4 (fun q hq => List.mem_of_mem_eraseIdx hq) (by omega) hrd4)
        have HB4 := Lib.hid (ext_trans HB.out HO2.out.bel)
        generalize (rs.eraseIdx k).length = ln at *
        clear hel hrd4 HCP HO1 hown1 HNW HLK HO2
        go_wp2_with fail
        refine HC4.out.mono ?_
        rintro e w5 ⟨qs, own, v5, rfl, hq, hO⟩
        have HO5 := Lib.hid hO
        have HQ5 := Lib.hid hq
        clear hq hO
        go_wp2
        go_ret2
        rw [H1.out, H2.out]
        exact OutNt.retL HO5.out HB4.out 0 (by rw [HQ5.out, map_eraseR, HMP.out])
      · go_wp2_with (at_builtin; go_must (refine wpList_append_own _ rfl _ _ 24 rfl w2.heap.size 31 ti (ntV ByteArray.empty 0 0 0 none 0 0 0 0 0) 8 88 Tryz.underlying24 HI.out hz0 hz1 hz2 rfl (by decide) _ _ _ rfl hown1 ⟨b, off + (k + 1) * 8, none⟩ (xs.length - (k + 1)) (c - (k + 1)) (flatR ((rs.drop (k + 1)).take (xs.length - (k + 1)))) rfl HLK.out HNW.out (flatR_one8 _) ?f3 ?f4 ?f5 ?_))
        case f3 => unfold maxLen; omega
        case f4 => omega
        case f5 => omega
        intro v4 w4 hown4 hgrow _
        have HO2 : Hid (OutR8 w2 w2.heap.size (rs.take k ++ (rs.drop (k + 1)).take (xs.length - (k + 1))) v4 w4) := OutR8.push (m := xs.length - (k + 1)) HO1.out (by rw [List.length_take, List.length_drop]; omega) (by rw [HL1.out]; exact hown4) (by rw [HL1.out]; exact hgrow)
        rw [show rs.take k ++ (rs.drop (k + 1)).take (xs.length - (k + 1)) = rs.eraseIdx k by rw [List.eraseIdx_eq_take_drop_succ, List.take_of_length_le (l := rs.drop (k + 1)) (by rw [List.length_drop]; omega)]] at HO2
        clear hown4 hgrow
        have hel : (rs.eraseIdx k).length = k + (xs.length - (k + 1)) := by rw [List.length_eraseIdx_of_lt (by omega)]; omega
        obtain ⟨A4, c4, rfl, hrd4⟩ := HO2.out.rd (fun r hr' => HTR.out r (List.mem_of_mem_eraseIdx hr'))
        have HC4 := Lib.hid (HCP.out A4 c4 (rs.eraseIdx k) w4 (fun q hq => List.mem_of_mem_eraseIdx hq) (by omega) hrd4)
        have HB4 := Lib.hid (ext_trans HB.out HO2.out.bel)
        generalize (rs.eraseIdx k).length = ln at *
        clear hel hrd4 HCP HO1 hown1 HNW HLK HO2
        go_wp2_with fail
        refine HC4.out.mono ?_
        rintro e w5 ⟨qs, own, v5, rfl, hq, hO⟩
        have HO5 := Lib.hid hO
        have HQ5 := Lib.hid hq
        clear hq hO
        go_wp2
        go_ret2
        rw [H1.out, H2.out]
        exact OutNt.retL HO5.out HB4.out 0 (by rw [HQ5.out, map_eraseR, HMP.out])
end Go.Proofs.YtpnabggpdgjbmaaGreatDoor
namespace Go.Proofs.YtpnabggpdgjbmaaGreatDoor
open Go.RowKit Go.Sort
/-- The code of AddNote. -/
def anC (xs : List Nt) (x : Nt) : Int := if (validNt xs && ntOk x) = true then (if fndN x.name xs 0 < 0 then (if xs.length = 40 then 5 else 0) else 4) else 1
/-- The place of a name: behind all that are not greater, from the end. -/
def anK (xs : List Nt) (s : ByteArray) : Nat → Nat
  | 0 => 0
  | k + 1 => if ltB s (xs.getD k default).name = true then anK xs s k else k + 1
def anX (xs : List Nt) (x : Nt) : List Nt := if anC xs x = 0 then xs.take (anK xs x.name xs.length) ++ [x] ++ xs.drop (anK xs x.name xs.length) else []
theorem anK_le (xs : List Nt) (s : ByteArray) : ∀ k, anK xs s k ≤ k
  | 0 => Nat.le_refl _
  | k + 1 => by
    unfold anK
    split
    · have := anK_le xs s k; omega
    · omega
theorem getD_nt {xs : List Nt} {k : Nat} {x : Nt} (h : xs[k]? = some x) : xs.getD k default = x := by rw [List.getD_eq_getElem?_getD, h]; rfl
theorem anK_spl {s : ByteArray} {xs : List Nt} {k : Nat} (hv : validNt xs = true) (S : Spl s xs k k) (hk : k ≤ xs.length) (hf : fdB s xs k = false) : ∀ m, k ≤ m → m ≤ xs.length → anK xs s m = k := by
  intro m
  induction m with
  | zero => intro h _; have : k = 0 := by omega
            subst this; rfl
  | succ m ih =>
    intro h1 h2
    have hx : xs[m]? = some xs[m] := List.getElem?_eq_getElem (by omega)
    rw [anK, getD_nt hx]
    rcases Nat.lt_or_ge m k with h | h
    · have e : m + 1 = k := by omega
      have hl := S.lo m _ h hx
      rw [if_neg (fun h3 => by have := ltB_trans hl h3; rw [ltB_irr] at this; exact absurd this (by simp))]
      exact e
    · have hl := S.hi m _ h hx
      have hkx : xs[k]? = some xs[k] := List.getElem?_eq_getElem (by omega)
      have hkl := S.hi k _ (Nat.le_refl _) hkx
      have hkn : ¬ (xs[k]).name = s := fun e => by
        unfold fdB at hf
        rw [hkx] at hf
        have := of_decide_eq_false hf
        exact this (cmpS_eq.2 e)
      have hne : ¬ (xs[m]).name = s := fun e => by
        rcases Nat.lt_or_ge k m with hkm | hkm
        · have h3 := validNt_lt hv k _ hkx (m - k - 1) xs[m] (by rw [show k + (m - k - 1) + 1 = m by omega]; exact hx)
          rw [e, hkl] at h3
          exact absurd h3 (by simp)
        · have : m = k := by omega
          subst this
          exact hkn e
      have ht := bl_total (xs[m]).name.toList s.toList
      unfold ltB at hl
      rw [hl, Bool.false_or] at ht
      have hb : ((xs[m]).name.toList == s.toList) = false := by
        rw [beq_eq_false_iff_ne]
        intro e
        exact hne (toList_inj e)
      rw [hb] at ht
      rw [if_pos (by unfold ltB; simpa using ht.symm)]
      exact ih h (by omega)
theorem heap_new (w : World) (o : Obj) : (w.alloc o).heap[w.heap.size]? = some o := heap_alloc_new w o
theorem insert_any (base vb i : Nat) (rs : List NtR) (r : NtR) (v : Value) (W : World) (hown : W.ownsRow base 31 8 v rs.length (flatR rs)) (hi : i ≤ rs.length) (hl : rs.length ≤ 1048576) (hvb : W.heap[vb]? = some (.cells r.cells.toArray 31 (0, 0))) (hne : ∀ g, v.ownBlock = some g → vb ≠ g) (hbase : base ≤ W.heap.size) :
    Calls Tryz.prog 36 #[v, .int .i64 i, .slice (some ⟨vb, 0, none⟩) 1 1] W (InsQ base rs r i v W) := by
  rcases Nat.eq_or_lt_of_le hi with h | h
  · subst h
    exact insert_end base vb rs r v W hown hl hvb hbase
  · rcases hown.2 with ⟨rfl, h0⟩ | ⟨g, cap, cur, rfl, hbg, hg, hnc, hcm, hcs, htake⟩
    · omega
    · rcases Nat.lt_or_ge cap (rs.length + 1) with hr | hr
      · exact insert_grow base vb g rs.length cap i rs r W hown hbase rfl hl h hr hvb
      · exact insert_room base vb g rs.length cap i rs r W cur hg hcs htake hbg rfl hl h hr hcm hvb (hne g rfl)
theorem insert_out {w0 : World} {base : Nat} {qs : List NtR} {own : Nat → Nat} {v : Value} {W W2 : World} {x : Nt} {T : Option Addr} {c k : Nat} (h : OutNt w0 base qs own v W) (hk : k ≤ qs.length) (hl : qs.length ≤ 1048576) (hb2 : Below W.heap.size W W2) (hT : WrT W2 W.heap.size T c x.terms) :
    Calls Tryz.prog 36 #[v, .int .i64 k, .slice (some ⟨W2.heap.size, 0, none⟩) 1 1] (W2.alloc (.cells #[.string x.name, .int .i64 x.kind, .int .i64 x.num, .int .i64 x.den, .slice T x.terms.length c, .int .i64 x.sp, .int .i64 x.sd, .int .i64 x.sq] 31)) fun e w' =>
      ∃ own' g cap, e = .returned (.slice (some ⟨g, 0, none⟩) (qs.length + 1) cap) ∧ OutNt w0 base (qs.take k ++ [⟨x, T, c⟩] ++ qs.drop k) own' (.slice (some ⟨g, 0, none⟩) (qs.length + 1) cap) w' := by
  have h2 := h.next hb2
  have hb := ext1 W2 (.cells #[.string x.name, .int .i64 x.kind, .int .i64 x.num, .int .i64 x.den, .slice T x.terms.length c, .int .i64 x.sp, .int .i64 x.sd, .int .i64 x.sq] 31)
  have h3 := h2.next hb
  refine (insert_any base W2.heap.size k qs ⟨x, T, c⟩ v _ h3.row hk hl (heap_new W2 _) (fun g hg e => ?_) h3.hi).mono ?_
  · have := (h2.row.lt g hg).2
    omega
  · rintro e w' ⟨g, cap, rfl, hown, hgr, hat⟩
    exact ⟨_, g, cap, rfl, OutNt.insert h hk hb2 hT hb hown hgr hat⟩
set_option maxRecDepth 100000 in
set_option maxHeartbeats 2000000 in
theorem iAddNote_any (A : Option Addr) (c : Nat) (xs : List Nt) (x : Nt) (T : Option Addr) (ct : Nat) (w : World) (hr : RdNt w w.heap.size A xs) (hf : ∀ x ∈ xs, x.fits) (hl : xs.length ≤ 1048576) (ht : ∀ x ∈ xs, x.terms.length ≤ 1048576) (hx : RdT w w.heap.size T ct x.terms) (hxf : x.fits) (hxl : x.terms.length ≤ 1048576) :
    Calls Tryz.prog 6 #[.slice A xs.length c, ntV x.name x.kind x.num x.den T x.terms.length ct x.sp x.sd x.sq] w (RetNtL w (anX xs x) (anC xs x)) := by
  have HV : Hid (∀ W : World, Below w.heap.size w W → Calls Tryz.prog 28 #[.slice A xs.length c] W fun e w' => e = .returned (.bool (validNt xs)) ∧ Below W.heap.size W w') := fun W hb => iValidNotes_any A c xs W (hr.next hb) hf (by unfold maxLen; omega)
  have HN : Hid (∀ W : World, Below w.heap.size w W → Calls Tryz.prog 34 #[ntV x.name x.kind x.num x.den T x.terms.length ct x.sp x.sd x.sq] W fun e w' => e = .returned (.bool (ntOk x)) ∧ Below W.heap.size W w') := fun W hb => isNote_any x T ct W (hx.next hb) hxf
  have HC : Hid (anC xs x = if (validNt xs && ntOk x) = true then (if fndN x.name xs 0 < 0 then (if xs.length = 40 then 5 else 0) else 4) else 1) := rfl
  have HX : Hid (anX xs x = if anC xs x = 0 then xs.take (anK xs x.name xs.length) ++ [x] ++ xs.drop (anK xs x.name xs.length) else []) := rfl
  have X := Lib.hid (BoxV.new w #[.string x.name, .int .i64 x.kind, .int .i64 x.num, .int .i64 x.den, .slice T x.terms.length ct, .int .i64 x.sp, .int .i64 x.sd, .int .i64 x.sq] 31)
  have E0 := Lib.hid (ext1 w (.cells #[.string x.name, .int .i64 x.kind, .int .i64 x.num, .int .i64 x.den, .slice T x.terms.length ct, .int .i64 x.sp, .int .i64 x.sd, .int .i64 x.sq] 31))
  unfold ntV at *
  cases hv : validNt xs
  · rw [hv] at HV HC
    have h1 : anC xs x = 1 := HC.out
    have h2 : anX xs x = [] := by rw [HX.out, if_neg (by omega)]
    rw [h1, h2]
    clear hv hr hf ht HC h1 HX h2 hx hxf HN X
    go_enter Tryz.func6, Tryz.ntmps6
    go_wp2_with fail
    refine (HV.out _ E0.out).mono ?_
    rintro e w1 ⟨rfl, hb1⟩
    go_wp2
    go_ret2
    exact RetNtL.nil_ 1 (ext_trans E0.out hb1)
  · cases ho : ntOk x
    · rw [hv] at HV HC
      rw [ho] at HN HC
      have h1 : anC xs x = 1 := HC.out
      have h2 : anX xs x = [] := by rw [HX.out, if_neg (by omega)]
      rw [h1, h2]
      clear hv ho hr hf ht HC h1 HX h2 hx hxf
      go_enter Tryz.func6, Tryz.ntmps6
      go_wp2_with fail
      refine (HV.out _ E0.out).mono ?_
      rintro e w1 ⟨rfl, hb1⟩
      have X := Lib.hid (X.out.next hb1)
      have E := Lib.hid (ext_trans E0.out hb1)
      clear hb1 E0
      have y0 := X.out.at 0 _ rfl
      have y1 := X.out.at 1 _ rfl
      have y2 := X.out.at 2 _ rfl
      have y3 := X.out.at 3 _ rfl
      have y4 := X.out.at 4 _ rfl
      have y5 := X.out.at 5 _ rfl
      have y6 := X.out.at 6 _ rfl
      have y7 := X.out.at 7 _ rfl
      go_wp2_with fail
      refine (HN.out _ E.out).mono ?_
      rintro e w2 ⟨rfl, hb2⟩
      go_wp2
      go_ret2
      exact RetNtL.nil_ 1 (ext_trans E.out hb2)
    · have HP : Hid (∀ W : World, Below w.heap.size w W → Calls Tryz.prog 35 #[.slice A xs.length c, .string x.name] W fun e w' => ∃ k : Nat, k ≤ xs.length ∧ Spl x.name xs k k ∧ e = .returned (.tuple #[.int .i64 (k : Int), .bool (fdB x.name xs k)]) ∧ Below W.heap.size W w') := fun W hb => placeOf_any A c xs x.name W (hr.next hb) hl (validNt_mono hv x.name)
      have HQ := Lib.hid (fun (k : Nat) (h1 : k ≤ xs.length) (h2 : Spl x.name xs k k) => fndN_spl hv h2 h1)
      have HAK := Lib.hid (fun (k : Nat) (h1 : k ≤ xs.length) (h2 : Spl x.name xs k k) (h3 : fdB x.name xs k = false) => anK_spl hv h2 h1 h3 xs.length h1 (Nat.le_refl _))
      have hle := validNt_len hv
      obtain ⟨rs, hmap, hrd⟩ := hr.rows
      have hlen : rs.length = xs.length := by rw [← hmap, List.length_map]
      have HCP : Hid (∀ W : World, Below w.heap.size w W → Calls Tryz.prog 37 #[.slice A xs.length c] W (RetNts W xs)) := fun W hb => by
        have := copyNotes_any A c rs W (hrd.next hb) (by omega) (fun r hr' => ht _ (by rw [← hmap]; exact List.mem_map_of_mem hr'))
        rwa [hmap, hlen] at this
      have HCN : Hid (∀ W : World, Below w.heap.size w W → Calls Tryz.prog 38 #[.agg #[.string x.name, .int .i64 x.kind, .int .i64 x.num, .int .i64 x.den, .slice T x.terms.length ct, .int .i64 x.sp, .int .i64 x.sd, .int .i64 x.sq]] W (RetNt W x)) := fun W hb => copyNote_any x T ct W (hx.next hb) hxl
      unfold RetNts at HCP
      unfold RetNt ntV at HCN
      rw [hv] at HV HC
      rw [ho] at HN HC
      clear hv ho hr hf ht hrd hmap hlen hx hxf
      go_enter Tryz.func6, Tryz.ntmps6
      go_wp2_with fail
      refine (HV.out _ E0.out).mono ?_
      rintro e w1 ⟨rfl, hb1⟩
      have X := Lib.hid (X.out.next hb1)
      have E := Lib.hid (ext_trans E0.out hb1)
      clear hb1 E0
      have y0 := X.out.at 0 _ rfl
      have y1 := X.out.at 1 _ rfl
      have y2 := X.out.at 2 _ rfl
      have y3 := X.out.at 3 _ rfl
      have y4 := X.out.at 4 _ rfl
      have y5 := X.out.at 5 _ rfl
      have y6 := X.out.at 6 _ rfl
      have y7 := X.out.at 7 _ rfl
      go_wp2_with fail
      refine (HN.out _ E.out).mono ?_
      rintro e w2 ⟨rfl, hb2⟩
      have X := Lib.hid (X.out.next hb2)
      have E := Lib.hid (ext_trans E.out hb2)
      clear hb2
      clear y0 y1 y2 y3 y4 y5 y6 y7
      have y0 := X.out.at 0 _ rfl
      have y1 := X.out.at 1 _ rfl
      have y2 := X.out.at 2 _ rfl
      have y3 := X.out.at 3 _ rfl
      have y4 := X.out.at 4 _ rfl
      have y5 := X.out.at 5 _ rfl
      have y6 := X.out.at 6 _ rfl
      have y7 := X.out.at 7 _ rfl
      go_wp2_with fail
      refine (HP.out _ E.out).mono ?_
      rintro e w3 ⟨k, hk, hsp, rfl, hb3⟩
      have X := Lib.hid (X.out.next hb3)
      have E := Lib.hid (ext_trans E.out hb3)
      have hfn := HQ.out k hk hsp
      clear y0 y1 y2 y3 y4 y5 y6 y7
      cases hfd : fdB x.name xs k
      · rw [hfd, if_neg (by simp)] at hfn
        have hak := HAK.out k hk hsp hfd
        by_cases h40 : xs.length = 40
        · have h1 : anC xs x = 5 := by rw [HC.out, hfn, if_pos h40]; rfl
          have h2 : anX xs x = [] := by rw [HX.out, if_neg (by omega)]
          have H1 := Lib.hid h1
          have H2 := Lib.hid h2
          have h40' : ((xs.length : Int) == 40) = true := by rw [h40]; rfl
          clear h1 h2 hfn hfd hak h40 hb3 hsp
          go_wp2
          go_ret2
          rw [H1.out, H2.out]
          exact RetNtL.nil_ 5 E.out
        · have h1 : anC xs x = 0 := by rw [HC.out, hfn, if_neg h40]; rfl
          have h2 : anX xs x = xs.take k ++ [x] ++ xs.drop k := by rw [HX.out, if_pos h1, hak]
          have H1 := Lib.hid h1
          have H2 := Lib.hid h2
          have h40' : ((xs.length : Int) == 40) = false := by rw [beq_eq_false_iff_ne]; omega
          have hbw : w.heap.size < w3.heap.size := X.out.lt
          clear h1 h2 hfn hfd hak h40 hb3 hsp HV HN HP HQ HAK HC HX
          have HCK : Hid (∀ W : World, Below w3.heap.size w3 W → (W.cell? ⟨w.heap.size, 0, none⟩ = some (.string x.name) ∧ W.cell? ⟨w.heap.size, 1, none⟩ = some (.int .i64 x.kind) ∧ W.cell? ⟨w.heap.size, 2, none⟩ = some (.int .i64 x.num) ∧ W.cell? ⟨w.heap.size, 3, none⟩ = some (.int .i64 x.den) ∧ W.cell? ⟨w.heap.size, 4, none⟩ = some (.slice T x.terms.length ct) ∧ W.cell? ⟨w.heap.size, 5, none⟩ = some (.int .i64 x.sp) ∧ W.cell? ⟨w.heap.size, 6, none⟩ = some (.int .i64 x.sd) ∧ W.cell? ⟨w.heap.size, 7, none⟩ = some (.int .i64 x.sq))) := fun W hb => ⟨(X.out.next hb).at 0 _ rfl, (X.out.next hb).at 1 _ rfl, (X.out.next hb).at 2 _ rfl, (X.out.next hb).at 3 _ rfl, (X.out.next hb).at 4 _ rfl, (X.out.next hb).at 5 _ rfl, (X.out.next hb).at 6 _ rfl, (X.out.next hb).at 7 _ rfl⟩
          go_wp2_with fail
          go_region_held3 (fun W => (W.cell? ⟨w.heap.size, 0, none⟩ = some (.string x.name) ∧ W.cell? ⟨w.heap.size, 1, none⟩ = some (.int .i64 x.kind) ∧ W.cell? ⟨w.heap.size, 2, none⟩ = some (.int .i64 x.num) ∧ W.cell? ⟨w.heap.size, 3, none⟩ = some (.int .i64 x.den) ∧ W.cell? ⟨w.heap.size, 4, none⟩ = some (.slice T x.terms.length ct) ∧ W.cell? ⟨w.heap.size, 5, none⟩ = some (.int .i64 x.sp) ∧ W.cell? ⟨w.heap.size, 6, none⟩ = some (.int .i64 x.sd) ∧ W.cell? ⟨w.heap.size, 7, none⟩ = some (.int .i64 x.sq)))
            (first
              | exact HCK.out _ (ext_drew (Below.refl _ _))
              | exact HCK.out _ B4.out
              | exact HCK.out _ (ext_alloc B4.out _)
              | exact HCK.out _ B5.out
              | exact HCK.out _ (ext_alloc B5.out _)
              | exact HCK.out _ B6.out)
            (first
              | (go_at_call 37; (with_reducible refine (HCP.out _ (ext_drew E.out)).mono ?_); rintro e w4 ⟨qs, own, v, rfl, hq, hO4⟩; have HQ4 := Lib.hid hq; have hqa : qs.length ≤ xs.length := (by rw [← hq, List.length_map]; exact Nat.le_refl _); have hqb : k ≤ qs.length := (by rw [← hq, List.length_map] at hk; exact hk); have O4 := Lib.hid hO4; have B4 := Lib.hid (ext_trans (ext_drew (Below.refl w3.heap.size w3)) hO4.bel); clear hq hO4)
              | (go_at_call 38; (with_reducible refine (HCN.out _ (ext_trans E.out B4.out)).mono ?_); rintro e w5 ⟨B5a, d5, rfl, hw5, hb5⟩; have B5 := Lib.hid (ext_trans B4.out hb5); have W5 := Lib.hid hw5; have HB5 := Lib.hid hb5; clear hw5 hb5)
              | (go_at_call 36; go_must (with_reducible refine (insert_out O4.out hqb (by omega) HB5.out W5.out).mono ?_); rintro e w6 ⟨own6, g6, cap6, rfl, hO6⟩; have O6 := Lib.hid hO6; have B6 := Lib.hid (ext_trans (ext_drew (Below.refl w3.heap.size w3)) hO6.bel); clear hO6))
          go_wp2
          go_ret2
          rw [H1.out, H2.out]
          exact OutNt.retL O6.out (ext_drew E.out) 0 (by rw [List.map_append, List.map_append, List.map_take, List.map_drop, HQ4.out]; rfl)
      · rw [hfd, if_pos rfl] at hfn
        have h1 : anC xs x = 4 := by rw [HC.out, hfn, if_pos (show (true && true) = true from rfl), if_neg (by omega)]
        have h2 : anX xs x = [] := by rw [HX.out, if_neg (by omega)]
        have H1 := Lib.hid h1
        have H2 := Lib.hid h2
        clear h1 h2 hfn hfd hb3 hsp
        go_wp2
        go_ret2
        rw [H1.out, H2.out]
        exact RetNtL.nil_ 4 E.out
end Go.Proofs.YtpnabggpdgjbmaaGreatDoor
