/- A slice of notes without one: both walks. No condition but those that each theorem names. -/
import Derived.Test.YtdjnblkgeaphmaaDelNtW
import Derived.Test.YtdjnblkgeaphmaaNnS
namespace Go.Proofs.Ytdjnblkgeaphmaa
open Go.RowKit Go.Sort

/-- What returns a slice of notes and a code. -/
def RetNtL (w : World) (xs : List Nt) (code : Int) (e : Ending) (w' : World) : Prop := ∃ A c, e = .returned (.tuple #[.slice A xs.length c, .int .i64 code]) ∧ WrNd w' w.heap.size w'.heap.size A xs ∧ Below w.heap.size w w'
theorem RetNtL.nil_ {w w' : World} (code : Int) (h : Below w.heap.size w w') : RetNtL w [] code (.returned (.tuple #[.slice none 0 0, .int .i64 code])) w' :=
  ⟨none, 0, rfl, ⟨Nat.le_refl _, fun h => absurd h (by simp)⟩, h⟩
theorem OutNt.retL {w w0 W : World} {base : Nat} {rs : List NtR} {own : Nat → Nat} {v : Value} (h : OutNt w0 base rs own v W) (hb : Below w.heap.size w w0) (code : Int) {xs : List Nt} (hx : rs.map NtR.x = xs) : RetNtL w xs code (.returned (.tuple #[v, .int .i64 code])) W := by
  subst hx
  obtain ⟨A, c, rfl, hw⟩ := h.wr
  exact ⟨A, c, rfl, hw.more (Nat.le_trans hb.size h.low), ext_trans hb h.bel⟩
theorem OutNt.form {w0 W : World} {base : Nat} {rs : List NtR} {own : Nat → Nat} {v : Value} (h : OutNt w0 base rs own v W) (hn : 0 < rs.length) : ∃ g cap, v = .slice (some ⟨g, 0, none⟩) rs.length cap := by
  rcases h.row.2 with ⟨rfl, h0⟩ | ⟨g, cap, cur, rfl, _⟩
  · omega
  · exact ⟨g, cap, rfl⟩
theorem map_eraseR (rs : List NtR) (k : Nat) : (rs.eraseIdx k).map NtR.x = (rs.map NtR.x).eraseIdx k := by
  rw [List.eraseIdx_eq_take_drop_succ, List.eraseIdx_eq_take_drop_succ, List.map_append, List.map_take, List.map_drop]
def dnX (xs : List Nt) (s : ByteArray) : List Nt := if nnC xs s = 0 then xs.eraseIdx (fndN s xs 0).toNat else []
/-- A row of one's own whose notes have their terms elsewhere. -/
structure OutR8 (w : World) (base : Nat) (rs : List NtR) (v : Value) (W : World) : Prop where
  row : W.ownsRow base 30 8 v rs.length (flatR rs)
  bel : Below w.heap.size w W
  low : w.heap.size ≤ base
  hi : base ≤ W.heap.size
theorem OutR8.start (w : World) : OutR8 w w.heap.size [] (.slice (some ⟨w.heap.size, 0, none⟩) 0 0) (w.alloc (.cells #[] 30)) :=
  let h := OutNt.start0 w
  ⟨h.row, h.bel, h.low, h.hi⟩
theorem OutR8.next {w : World} {base : Nat} {rs : List NtR} {v : Value} {W W' : World} (h : OutR8 w base rs v W) (hb : Below W.heap.size W W') : OutR8 w base rs v W' := ⟨own_below h.row hb, ext_trans h.bel hb, h.low, Nat.le_trans h.hi hb.size⟩
theorem OutR8.push {w : World} {base : Nat} {rs qs : List NtR} {v v' : Value} {W W' : World} {m : Nat} (h : OutR8 w base rs v W) (hm : qs.length = m) (hown : W'.ownsRow base 30 8 v' (rs.length + m) (flatR rs ++ flatR qs)) (hg : W.grownBy W' v.ownBlock) : OutR8 w base (rs ++ qs) v' W' := by
  subst hm
  exact ⟨by rw [flatR_append, List.length_append]; exact hown, below_grown h.bel h.row h.low hg, h.low, Nat.le_trans h.hi hg.size⟩
theorem OutR8.rd {w : World} {base : Nat} {rs : List NtR} {v : Value} {W : World} (h : OutR8 w base rs v W) (ht : ∀ r ∈ rs, RdT w w.heap.size r.T r.c r.x.terms) : ∃ A c, v = .slice A rs.length c ∧ RdR W W.heap.size A rs := by
  rcases h.row.2 with ⟨rfl, h0⟩ | ⟨g, cap, cur, rfl, hg, hh, hc, hm, hs, htk⟩
  · exact ⟨none, 0, by rw [h0], fun hn => by omega⟩
  · have hlt : g < W.heap.size := (Array.getElem?_eq_some_iff.1 hh).1
    refine ⟨_, cap, rfl, fun _ => ⟨g, 0, rfl, hlt, fun j r hr => ⟨fun m u hu => ?_, (ht r (List.mem_of_getElem? hr)).next h.bel⟩⟩⟩
    have := h.row.cells (g := g) rfl _ _ (flatR_get rs j r m u hr hu)
    rw [Addr.add_lit, ← Nat.add_assoc] at this
    exact this
theorem RdR.news {w : World} {B b off : Nat} {rs : List NtR} (hc : ∀ j r, rs[j]? = some r → RowAt w b (off + j * 8) r.cells ∧ RdT w B r.T r.c r.x.terms) (k m : Nat) : ∀ i u, (flatR ((rs.drop k).take m))[i]? = some u → w.cell? ((⟨b, off + k * 8, none⟩ : Addr).add i) = some u := fun i u hu => by
  obtain ⟨r, hr, hv⟩ := flatR_at _ _ _ hu
  rw [List.getElem?_take] at hr
  split at hr
  · rw [List.getElem?_drop] at hr
    have := (hc _ r hr).1 _ _ hv
    rw [Addr.add_lit, show off + k * 8 + i = off + (k + i / 8) * 8 + i % 8 by omega]
    exact this
  · cases hr
set_option maxRecDepth 100000 in
set_option maxHeartbeats 2000000 in
theorem iDropNote_any (A : Option Addr) (c : Nat) (xs : List Nt) (s : ByteArray) (w : World) (hr : RdNt w w.heap.size A xs) (hf : ∀ x ∈ xs, x.fits) (hl : xs.length ≤ 1048576) (ht : ∀ x ∈ xs, x.terms.length ≤ 1048576) :
    Calls Try.prog 20 #[.slice A xs.length c, .string s] w (RetNtL w (dnX xs s) (nnC xs s)) := by
  have HV : Hid (∀ W : World, Below w.heap.size w W → Calls Try.prog 78 #[.slice A xs.length c] W fun e w' => e = .returned (.bool (validNt xs)) ∧ Below W.heap.size W w') := fun W hb => iValidNotes_any A c xs W (hr.next hb) hf (by unfold maxLen; omega)
  have HC : Hid (nnC xs s = if validNt xs = true then (if fndN s xs 0 < 0 then 3 else 0) else 1) := rfl
  have HX : Hid (dnX xs s = if nnC xs s = 0 then xs.eraseIdx (fndN s xs 0).toNat else []) := rfl
  cases hv : validNt xs
  · rw [hv] at HV HC
    have h1 : nnC xs s = 1 := HC.out
    have h2 : dnX xs s = [] := by rw [HX.out, if_neg (by omega)]
    rw [h1, h2]
    clear hv hr hf ht HC h1 HX h2
    go_enter Try.func20, Try.ntmps20
    go_wp2_with fail
    refine (HV.out _ (Below.refl _ _)).mono ?_
    rintro e w1 ⟨rfl, hb1⟩
    go_wp2
    go_ret2
    exact RetNtL.nil_ 1 hb1
  · have HP : Hid (∀ W : World, Below w.heap.size w W → Calls Try.prog 79 #[.slice A xs.length c, .string s] W fun e w' => ∃ k : Nat, k ≤ xs.length ∧ Spl s xs k k ∧ e = .returned (.tuple #[.int .i64 (k : Int), .bool (fdB s xs k)]) ∧ Below W.heap.size W w') := fun W hb => placeOf_any A c xs s W (hr.next hb) hl (validNt_mono hv s)
    have HQ := Lib.hid (fun (k : Nat) (h1 : k ≤ xs.length) (h2 : Spl s xs k k) => fndN_spl hv h2 h1)
    obtain ⟨rs, hmap, hrd⟩ := hr.rows
    have hlen : rs.length = xs.length := by rw [← hmap, List.length_map]
    have HCP : Hid (∀ W : World, Below w.heap.size w W → Calls Try.prog 89 #[.slice A xs.length c] W (RetNts W xs)) := fun W hb => by
      have := copyNotes_any A c rs W (hrd.next hb) (by omega) (fun r hr' => ht _ (by rw [← hmap]; exact List.mem_map_of_mem hr'))
      rwa [hmap, hlen] at this
    unfold RetNts at HCP
    rw [hv] at HV HC
    clear hv hr hf ht hrd hmap hlen
    go_enter Try.func20, Try.ntmps20
    go_wp2_with fail
    refine (HV.out _ (Below.refl _ _)).mono ?_
    rintro e w1 ⟨rfl, hb1⟩
    have HB := Lib.hid hb1
    clear hb1
    go_wp2_with fail
    refine (HP.out _ HB.out).mono ?_
    rintro e w2 ⟨k, hk, hsp, rfl, hb2⟩
    have HB := Lib.hid (ext_trans HB.out hb2)
    have hfn := HQ.out k hk hsp
    clear hb2 hsp
    cases hfd : fdB s xs k
    · rw [hfd, if_neg (by simp)] at hfn
      have h1 : nnC xs s = 3 := by rw [HC.out, hfn]; rfl
      have h2 : dnX xs s = [] := by rw [HX.out, if_neg (by omega)]
      have H1 := Lib.hid h1
      have H2 := Lib.hid h2
      clear h1 h2 hfn hfd
      go_wp2
      go_ret2
      rw [H1.out, H2.out]
      exact RetNtL.nil_ 3 HB.out
    · rw [hfd, if_pos rfl] at hfn
      have h1 : nnC xs s = 0 := by rw [HC.out, hfn, if_pos trivial, if_neg (by omega)]
      have h2 : dnX xs s = xs.eraseIdx k := by rw [HX.out, if_pos h1, hfn]; rfl
      have H1 := Lib.hid h1
      have H2 := Lib.hid h2
      have hkl : k < xs.length := by
        rcases Nat.lt_or_ge k xs.length with g | g
        · exact g
        · unfold fdB at hfd; rw [List.getElem?_eq_none g] at hfd; simp at hfd
      clear h1 h2 hfn hfd
      go_wp2_with fail
      refine (HCP.out _ HB.out).mono ?_
      rintro e w3 ⟨qs, own, v, rfl, hq, hO⟩
      have hql : qs.length = xs.length := by rw [← hq, List.length_map]
      have HQM := Lib.hid hq
      obtain ⟨g, cap, rfl⟩ := hO.form (by omega)
      obtain ⟨n1, hn1⟩ : ∃ n1, qs.length = n1 + 1 := ⟨qs.length - 1, by omega⟩
      have HO := Lib.hid hO
      rw [hn1] at HO
      have HN1 := Lib.hid hn1
      have HDL := Lib.hid (delete_any w2 w2.heap.size g cap n1 k (k + 1) qs own w3 HO.out hn1 (by omega) rfl)
      rw [Int.natCast_add] at HDL
      have hkk : (k : Int) + 1 ≤ 1048576 := by omega
      rw [hn1]
      clear hq hO hql hn1
      go_wp2_with fail
      refine HDL.out.mono ?_
      rintro e w4 ⟨own', rfl, hO4⟩
      have HO4 := Lib.hid hO4
      clear hO4
      go_wp2
      go_ret2
      rw [H1.out, H2.out]
      exact OutNt.retL HO4.out HB.out 0 (by rw [← HQM.out, map_eraseR])
set_option maxRecDepth 100000 in
set_option maxHeartbeats 2000000 in
theorem sDropNote_any (A : Option Addr) (c : Nat) (xs : List Nt) (s : ByteArray) (w : World) (hr : RdNt w w.heap.size A xs) (hf : ∀ x ∈ xs, x.fits) (hl : xs.length ≤ 1048576) (ht : ∀ x ∈ xs, x.terms.length ≤ 1048576) (hc : xs.length ≤ c) (hcm : c ≤ maxLen) :
    Calls Try.prog 19 #[.slice A xs.length c, .string s] w (RetNtL w (dnX xs s) (nnC xs s)) := by
  obtain ⟨ti, hi, hz0, hz1, hz2⟩ := info_parts infoNtR
  have HI := Lib.hid hi
  have HV : Hid (∀ W : World, Below w.heap.size w W → Calls Try.prog 75 #[.slice A xs.length c] W fun e w' => e = .returned (.bool (validNt xs)) ∧ Below W.heap.size W w') := fun W hb => l27Ok_any A c xs W (hr.next hb) hf (by unfold maxLen; omega)
  have HC : Hid (nnC xs s = if validNt xs = true then (if fndN s xs 0 < 0 then 3 else 0) else 1) := rfl
  have HX : Hid (dnX xs s = if nnC xs s = 0 then xs.eraseIdx (fndN s xs 0).toNat else []) := rfl
  clear hi
  cases hv : validNt xs
  · rw [hv] at HV HC
    have h1 : nnC xs s = 1 := HC.out
    have h2 : dnX xs s = [] := by rw [HX.out, if_neg (by omega)]
    rw [h1, h2]
    clear hv hr hf ht HC h1 HX h2
    go_enter Try.func19, Try.ntmps19
    go_wp2_with fail
    refine (HV.out _ (Below.refl _ _)).mono ?_
    rintro e w1 ⟨rfl, hb1⟩
    go_wp2
    go_ret2
    exact RetNtL.nil_ 1 hb1
  · have HP : Hid (∀ W : World, Below w.heap.size w W → Calls Try.prog 76 #[.slice A xs.length c, .string s] W fun e w' => e = .returned (.int .i64 (fndN s xs 0)) ∧ Below W.heap.size W w') := fun W hb => l27Find_any A c xs s W (hr.next hb) (by unfold maxLen; omega)
    have HQ := Lib.hid (fndN_bd s xs)
    obtain ⟨rs, hmap, hrd⟩ := hr.rows
    have hlen : rs.length = xs.length := by rw [← hmap, List.length_map]
    have HCP : Hid (∀ (B : Option Addr) (d : Nat) (qs : List NtR) (W : World), (∀ q ∈ qs, q ∈ rs) → qs.length ≤ xs.length → RdR W W.heap.size B qs → Calls Try.prog 87 #[.slice B qs.length d] W (RetNts W (qs.map NtR.x))) := fun B d qs W hq1 hq2 h => l27Copy_any B d qs W h (by omega) (fun r hr' => ht _ (by rw [← hmap]; exact List.mem_map_of_mem (hq1 r hr')))
    unfold RetNts at HCP
    have HMP := Lib.hid hmap
    have HRD := Lib.hid hrd
    rw [hv] at HV HC
    have hc' : c ≤ 9223372036854775807 := by unfold maxLen at hcm; omega
    clear hv hr hf ht hrd hmap hcm
    go_enter Try.func19, Try.ntmps19
    go_wp2_with fail
    refine (HV.out _ (Below.refl _ _)).mono ?_
    rintro e w1 ⟨rfl, hb1⟩
    have HB := Lib.hid hb1
    clear hb1
    go_wp2_with fail
    refine (HP.out _ HB.out).mono ?_
    rintro e w2 ⟨rfl, hb2⟩
    have HB := Lib.hid (ext_trans HB.out hb2)
    clear hb2
    by_cases hneg : fndN s xs 0 < 0
    · have h1 : nnC xs s = 3 := by rw [HC.out, if_pos trivial, if_pos hneg]
      have h2 : dnX xs s = [] := by rw [HX.out, if_neg (by omega)]
      have H1 := Lib.hid h1
      have H2 := Lib.hid h2
      clear h1 h2
      generalize fndN s xs 0 = R at *
      go_wp2
      go_ret2
      rw [H1.out, H2.out]
      exact RetNtL.nil_ 3 HB.out
    · have h1 : nnC xs s = 0 := by rw [HC.out, if_pos trivial, if_neg hneg]
      obtain ⟨k, hkR⟩ : ∃ k : Nat, fndN s xs 0 = (k : Int) := ⟨(fndN s xs 0).toNat, by omega⟩
      have h2 : dnX xs s = xs.eraseIdx k := by rw [HX.out, if_pos h1, hkR]; rfl
      have H1 := Lib.hid h1
      have H2 := Lib.hid h2
      have hkl : k < xs.length := by have := HQ.out; rw [hkR] at this; omega
      rw [hkR] at hneg ⊢
      clear h1 h2 hkR HQ HP HV HC HX
      obtain ⟨b, off, rfl, hb, hcR⟩ := (HRD.out.next HB.out) (by omega)
      have HCR := Lib.hid hcR
      have HO0 := Lib.hid (OutR8.start w2)
      have hown0 := HO0.out.row
      have hkc : k ≤ c := by omega
      have hk1c : k + 1 ≤ c := by omega
      have i0 : (0 : Int) ≤ (k : Int) := by omega
      have e1 : (k : Int) + 1 ≤ (xs.length : Int) := by omega
      have hlk : (flatR ((rs.drop 0).take k)).length = k * 8 := by rw [flatR_length, List.length_take, List.drop_zero]; omega
      have hlk2 : ((rs.drop 0).take k).length = k := by rw [List.length_take, List.drop_zero]; omega
      have hlen1 : rs.length ≤ xs.length := by omega
      have hlen2 : xs.length ≤ rs.length := by omega
      have HN0 := Lib.hid (fun i u hu => RdR.news HCR.out 0 k i u hu)
      have HLK := Lib.hid hlk
      have HLK2 := Lib.hid hlk2
      clear hcR hlk hlk2 hlen
      have hnews : ∀ j u, (flatR ((rs.drop 0).take k))[j]? = some u → (w2.alloc (.cells #[] 30)).cell? ((⟨b, off, none⟩ : Addr).add j) = some u := fun j u hu => by
        have h := HN0.out j u hu
        rw [Nat.zero_mul, Nat.add_zero] at h
        rw [← h]
        exact (ext1 w2 _).cell (p := (⟨b, off, none⟩ : Addr).add j) (by rw [Addr.add_lit]; exact hb)
      have HNW := Lib.hid hnews
      clear hnews
      go_wp2_with (at_builtin; go_must (refine wpList_append_own _ rfl _ _ 33 rfl w2.heap.size 30 ti (ntV ByteArray.empty 0 0 0 none 0 0 0 0 0) 8 88 Try.underlying33 HI.out hz0 hz1 hz2 rfl (by decide) _ _ _ rfl hown0 ⟨b, off, none⟩ k c (flatR ((rs.drop 0).take k)) rfl HLK.out HNW.out (flatR_one8 _) ?c3 ?c4 ?c5 ?_))
      case c3 => unfold maxLen; simp; omega
      case c4 => simp; omega
      case c5 => simp
      intro v3 w3 hown3 hgrow _
      have HO1 : Hid (OutR8 w2 w2.heap.size ([] ++ (rs.drop 0).take k) v3 w3) := OutR8.push HO0.out HLK2.out (by simpa using hown3) hgrow
      rw [List.nil_append, List.drop_zero] at HO1
      have hb3 : Below w.heap.size w w3 := ext_trans HB.out HO1.out.bel
      have HB3 := Lib.hid hb3
      have hb2lt : b < w2.heap.size := hb
      have hs23 := HO1.out.bel.size
      clear hown3 hgrow hown0 HO0 HNW HN0 HLK HLK2 hb3
      obtain ⟨A3, c3, rfl⟩ := own_slice HO1.out.row
      have hown1 := HO1.out.row
      have hl1 : (rs.take k).length = k := by rw [List.length_take]; omega
      rw [hl1] at hown1 ⊢
      have hlk : (flatR ((rs.drop (k + 1)).take (xs.length - (k + 1)))).length = (xs.length - (k + 1)) * 8 := by rw [flatR_length, List.length_take, List.length_drop]; omega
      have HLK := Lib.hid hlk
      have hnews : ∀ j u, (flatR ((rs.drop (k + 1)).take (xs.length - (k + 1))))[j]? = some u → w3.cell? ((⟨b, off + (k + 1) * 8, none⟩ : Addr).add j) = some u := fun j u hu => by
        have h := RdR.news HCR.out (k + 1) (xs.length - (k + 1)) j u hu
        rw [← h]
        exact HO1.out.bel.cell (p := (⟨b, off + (k + 1) * 8, none⟩ : Addr).add j) (by rw [Addr.add_lit]; exact hb)
      have HNW := Lib.hid hnews
      have HL1 := Lib.hid hl1
      have htr : ∀ r ∈ rs, RdT w2 w2.heap.size r.T r.c r.x.terms := fun r hr' => by
        obtain ⟨j, hj, rfl⟩ := List.getElem_of_mem hr'
        exact (HCR.out j _ (List.getElem?_eq_getElem hj)).2
      have HTR := Lib.hid htr
      clear hnews hlk hl1 htr
      by_cases hck : c = k + 1
      · subst hck
        go_wp2_with (at_builtin; go_must (refine wpList_append_own _ rfl _ _ 33 rfl w2.heap.size 30 ti (ntV ByteArray.empty 0 0 0 none 0 0 0 0 0) 8 88 Try.underlying33 HI.out hz0 hz1 hz2 rfl (by decide) _ _ _ rfl hown1 ⟨b, off, none⟩ 0 0 [] rfl rfl (fun _ _ h => by simp at h) (fun _ h => by simp at h) ?d3 ?d4 ?d5 ?_))
        case d3 => unfold maxLen; omega
        case d4 => omega
        case d5 => omega
        intro v4 w4 hown4 hgrow _
        have HO2 : Hid (OutR8 w2 w2.heap.size (rs.take k ++ []) v4 w4) := OutR8.push (m := 0) HO1.out rfl (by rw [HL1.out]; simpa [flatR] using hown4) (by rw [HL1.out]; exact hgrow)
        rw [List.append_nil, ← show rs.eraseIdx k = rs.take k by rw [List.eraseIdx_eq_take_drop_succ, List.drop_eq_nil_of_le (by omega), List.append_nil]] at HO2
        clear hown4 hgrow
        have hel : (rs.eraseIdx k).length = k := by rw [List.length_eraseIdx_of_lt (by omega)]; omega
        obtain ⟨A4, c4, rfl, hrd4⟩ := HO2.out.rd (fun r hr' => HTR.out r (List.mem_of_mem_eraseIdx hr'))
        have HC4 := Lib.hid (HCP.out A4 c4 (rs.eraseIdx k) w4 (fun q hq => List.mem_of_mem_eraseIdx hq) (by omega) hrd4)
        have HB4 := Lib.hid (ext_trans HB.out HO2.out.bel)
        generalize (rs.eraseIdx k).length = ln at *
        clear hel hrd4 HCP HO1 hown1 HNW HLK HO2
        go_wp2_with fail
        refine HC4.out.mono ?_
        rintro e w5 ⟨qs, own, v5, rfl, hq, hO⟩
        have HO5 := Lib.hid hO
        have HQ5 := Lib.hid hq
        clear hq hO
        go_wp2
        go_ret2
        rw [H1.out, H2.out]
        exact OutNt.retL HO5.out HB4.out 0 (by rw [HQ5.out, map_eraseR, HMP.out])
      · go_wp2_with (at_builtin; go_must (refine wpList_append_own _ rfl _ _ 33 rfl w2.heap.size 30 ti (ntV ByteArray.empty 0 0 0 none 0 0 0 0 0) 8 88 Try.underlying33 HI.out hz0 hz1 hz2 rfl (by decide) _ _ _ rfl hown1 ⟨b, off + (k + 1) * 8, none⟩ (xs.length - (k + 1)) (c - (k + 1)) (flatR ((rs.drop (k + 1)).take (xs.length - (k + 1)))) rfl HLK.out HNW.out (flatR_one8 _) ?f3 ?f4 ?f5 ?_))
        case f3 => unfold maxLen; omega
        case f4 => omega
        case f5 => omega
        intro v4 w4 hown4 hgrow _
        have HO2 : Hid (OutR8 w2 w2.heap.size (rs.take k ++ (rs.drop (k + 1)).take (xs.length - (k + 1))) v4 w4) := OutR8.push (m := xs.length - (k + 1)) HO1.out (by rw [List.length_take, List.length_drop]; omega) (by rw [HL1.out]; exact hown4) (by rw [HL1.out]; exact hgrow)
        rw [show rs.take k ++ (rs.drop (k + 1)).take (xs.length - (k + 1)) = rs.eraseIdx k by rw [List.eraseIdx_eq_take_drop_succ, List.take_of_length_le (l := rs.drop (k + 1)) (by rw [List.length_drop]; omega)]] at HO2
        clear hown4 hgrow
        have hel : (rs.eraseIdx k).length = k + (xs.length - (k + 1)) := by rw [List.length_eraseIdx_of_lt (by omega)]; omega
        obtain ⟨A4, c4, rfl, hrd4⟩ := HO2.out.rd (fun r hr' => HTR.out r (List.mem_of_mem_eraseIdx hr'))
        have HC4 := Lib.hid (HCP.out A4 c4 (rs.eraseIdx k) w4 (fun q hq => List.mem_of_mem_eraseIdx hq) (by omega) hrd4)
        have HB4 := Lib.hid (ext_trans HB.out HO2.out.bel)
        generalize (rs.eraseIdx k).length = ln at *
        clear hel hrd4 HCP HO1 hown1 HNW HLK HO2
        go_wp2_with fail
        refine HC4.out.mono ?_
        rintro e w5 ⟨qs, own, v5, rfl, hq, hO⟩
        have HO5 := Lib.hid hO
        have HQ5 := Lib.hid hq
        clear hq hO
        go_wp2
        go_ret2
        rw [H1.out, H2.out]
        exact OutNt.retL HO5.out HB4.out 0 (by rw [HQ5.out, map_eraseR, HMP.out])
end Go.Proofs.Ytdjnblkgeaphmaa
