/- A slice of notes with one more: plain laws, and the program's walk. No condition but those that each theorem names. -/
import Derived.Test.YtdjnblkgeaphmaaInsNtW
import Derived.Test.YtdjnblkgeaphmaaDropNtW
import Derived.Deep.RegionHeld3
namespace Go.Proofs.Ytdjnblkgeaphmaa
open Go.RowKit Go.Sort

/-- The code of AddNote. -/
def anC (xs : List Nt) (x : Nt) : Int := if (validNt xs && ntOk x) = true then (if fndN x.name xs 0 < 0 then (if xs.length = 40 then 5 else 0) else 4) else 1
/-- The place of a name: behind all that are not greater, from the end. -/
def anK (xs : List Nt) (s : ByteArray) : Nat → Nat
  | 0 => 0
  | k + 1 => if ltB s (xs.getD k default).name = true then anK xs s k else k + 1
def anX (xs : List Nt) (x : Nt) : List Nt := if anC xs x = 0 then xs.take (anK xs x.name xs.length) ++ [x] ++ xs.drop (anK xs x.name xs.length) else []
theorem anK_le (xs : List Nt) (s : ByteArray) : ∀ k, anK xs s k ≤ k
  | 0 => Nat.le_refl _
  | k + 1 => by
    unfold anK
    split
    · have := anK_le xs s k; omega
    · omega
theorem getD_nt {xs : List Nt} {k : Nat} {x : Nt} (h : xs[k]? = some x) : xs.getD k default = x := by rw [List.getD_eq_getElem?_getD, h]; rfl
theorem anK_spl {s : ByteArray} {xs : List Nt} {k : Nat} (hv : validNt xs = true) (S : Spl s xs k k) (hk : k ≤ xs.length) (hf : fdB s xs k = false) : ∀ m, k ≤ m → m ≤ xs.length → anK xs s m = k := by
  intro m
  induction m with
  | zero => intro h _; have : k = 0 := by omega
            subst this; rfl
  | succ m ih =>
    intro h1 h2
    have hx : xs[m]? = some xs[m] := List.getElem?_eq_getElem (by omega)
    rw [anK, getD_nt hx]
    rcases Nat.lt_or_ge m k with h | h
    · have e : m + 1 = k := by omega
      have hl := S.lo m _ h hx
      rw [if_neg (fun h3 => by have := ltB_trans hl h3; rw [ltB_irr] at this; exact absurd this (by simp))]
      exact e
    · have hl := S.hi m _ h hx
      have hkx : xs[k]? = some xs[k] := List.getElem?_eq_getElem (by omega)
      have hkl := S.hi k _ (Nat.le_refl _) hkx
      have hkn : ¬ (xs[k]).name = s := fun e => by
        unfold fdB at hf
        rw [hkx] at hf
        have := of_decide_eq_false hf
        exact this (cmpS_eq.2 e)
      have hne : ¬ (xs[m]).name = s := fun e => by
        rcases Nat.lt_or_ge k m with hkm | hkm
        · have h3 := validNt_lt hv k _ hkx (m - k - 1) xs[m] (by rw [show k + (m - k - 1) + 1 = m by omega]; exact hx)
          rw [e, hkl] at h3
          exact absurd h3 (by simp)
        · have : m = k := by omega
          subst this
          exact hkn e
      have ht := bl_total (xs[m]).name.toList s.toList
      unfold ltB at hl
      rw [hl, Bool.false_or] at ht
      have hb : ((xs[m]).name.toList == s.toList) = false := by
        rw [beq_eq_false_iff_ne]
        intro e
        exact hne (toList_inj e)
      rw [hb] at ht
      rw [if_pos (by unfold ltB; simpa using ht.symm)]
      exact ih h (by omega)
theorem heap_new (w : World) (o : Obj) : (w.alloc o).heap[w.heap.size]? = some o := heap_alloc_new w o
theorem insert_any (base vb i : Nat) (rs : List NtR) (r : NtR) (v : Value) (W : World) (hown : W.ownsRow base 30 8 v rs.length (flatR rs)) (hi : i ≤ rs.length) (hl : rs.length ≤ 1048576) (hvb : W.heap[vb]? = some (.cells r.cells.toArray 30 (0, 0))) (hne : ∀ g, v.ownBlock = some g → vb ≠ g) (hbase : base ≤ W.heap.size) :
    Calls Try.prog 96 #[v, .int .i64 i, .slice (some ⟨vb, 0, none⟩) 1 1] W (InsQ base rs r i v W) := by
  rcases Nat.eq_or_lt_of_le hi with h | h
  · subst h
    exact insert_end base vb rs r v W hown hl hvb hbase
  · rcases hown.2 with ⟨rfl, h0⟩ | ⟨g, cap, cur, rfl, hbg, hg, hnc, hcm, hcs, htake⟩
    · omega
    · rcases Nat.lt_or_ge cap (rs.length + 1) with hr | hr
      · exact insert_grow base vb g rs.length cap i rs r W hown hbase rfl hl h hr hvb
      · exact insert_room base vb g rs.length cap i rs r W cur hg hcs htake hbg rfl hl h hr hcm hvb (hne g rfl)
theorem insert_out {w0 : World} {base : Nat} {qs : List NtR} {own : Nat → Nat} {v : Value} {W W2 : World} {x : Nt} {T : Option Addr} {c k : Nat} (h : OutNt w0 base qs own v W) (hk : k ≤ qs.length) (hl : qs.length ≤ 1048576) (hb2 : Below W.heap.size W W2) (hT : WrT W2 W.heap.size T c x.terms) :
    Calls Try.prog 96 #[v, .int .i64 k, .slice (some ⟨W2.heap.size, 0, none⟩) 1 1] (W2.alloc (.cells #[.string x.name, .int .i64 x.kind, .int .i64 x.num, .int .i64 x.den, .slice T x.terms.length c, .int .i64 x.sp, .int .i64 x.sd, .int .i64 x.sq] 30)) fun e w' =>
      ∃ own' g cap, e = .returned (.slice (some ⟨g, 0, none⟩) (qs.length + 1) cap) ∧ OutNt w0 base (qs.take k ++ [⟨x, T, c⟩] ++ qs.drop k) own' (.slice (some ⟨g, 0, none⟩) (qs.length + 1) cap) w' := by
  have h2 := h.next hb2
  have hb := ext1 W2 (.cells #[.string x.name, .int .i64 x.kind, .int .i64 x.num, .int .i64 x.den, .slice T x.terms.length c, .int .i64 x.sp, .int .i64 x.sd, .int .i64 x.sq] 30)
  have h3 := h2.next hb
  refine (insert_any base W2.heap.size k qs ⟨x, T, c⟩ v _ h3.row hk hl (heap_new W2 _) (fun g hg e => ?_) h3.hi).mono ?_
  · have := (h2.row.lt g hg).2
    omega
  · rintro e w' ⟨g, cap, rfl, hown, hgr, hat⟩
    exact ⟨_, g, cap, rfl, OutNt.insert h hk hb2 hT hb hown hgr hat⟩
set_option maxRecDepth 100000 in
set_option maxHeartbeats 2000000 in
theorem iAddNote_any (A : Option Addr) (c : Nat) (xs : List Nt) (x : Nt) (T : Option Addr) (ct : Nat) (w : World) (hr : RdNt w w.heap.size A xs) (hf : ∀ x ∈ xs, x.fits) (hl : xs.length ≤ 1048576) (ht : ∀ x ∈ xs, x.terms.length ≤ 1048576) (hx : RdT w w.heap.size T ct x.terms) (hxf : x.fits) (hxl : x.terms.length ≤ 1048576) :
    Calls Try.prog 25 #[.slice A xs.length c, ntV x.name x.kind x.num x.den T x.terms.length ct x.sp x.sd x.sq] w (RetNtL w (anX xs x) (anC xs x)) := by
  have HV : Hid (∀ W : World, Below w.heap.size w W → Calls Try.prog 78 #[.slice A xs.length c] W fun e w' => e = .returned (.bool (validNt xs)) ∧ Below W.heap.size W w') := fun W hb => iValidNotes_any A c xs W (hr.next hb) hf (by unfold maxLen; omega)
  have HN : Hid (∀ W : World, Below w.heap.size w W → Calls Try.prog 95 #[ntV x.name x.kind x.num x.den T x.terms.length ct x.sp x.sd x.sq] W fun e w' => e = .returned (.bool (ntOk x)) ∧ Below W.heap.size W w') := fun W hb => isNote_any x T ct W (hx.next hb) hxf
  have HC : Hid (anC xs x = if (validNt xs && ntOk x) = true then (if fndN x.name xs 0 < 0 then (if xs.length = 40 then 5 else 0) else 4) else 1) := rfl
  have HX : Hid (anX xs x = if anC xs x = 0 then xs.take (anK xs x.name xs.length) ++ [x] ++ xs.drop (anK xs x.name xs.length) else []) := rfl
  have X := Lib.hid (BoxV.new w #[.string x.name, .int .i64 x.kind, .int .i64 x.num, .int .i64 x.den, .slice T x.terms.length ct, .int .i64 x.sp, .int .i64 x.sd, .int .i64 x.sq] 30)
  have E0 := Lib.hid (ext1 w (.cells #[.string x.name, .int .i64 x.kind, .int .i64 x.num, .int .i64 x.den, .slice T x.terms.length ct, .int .i64 x.sp, .int .i64 x.sd, .int .i64 x.sq] 30))
  unfold ntV at *
  cases hv : validNt xs
  · rw [hv] at HV HC
    have h1 : anC xs x = 1 := HC.out
    have h2 : anX xs x = [] := by rw [HX.out, if_neg (by omega)]
    rw [h1, h2]
    clear hv hr hf ht HC h1 HX h2 hx hxf HN X
    go_enter Try.func25, Try.ntmps25
    go_wp2_with fail
    refine (HV.out _ E0.out).mono ?_
    rintro e w1 ⟨rfl, hb1⟩
    go_wp2
    go_ret2
    exact RetNtL.nil_ 1 (ext_trans E0.out hb1)
  · cases ho : ntOk x
    · rw [hv] at HV HC
      rw [ho] at HN HC
      have h1 : anC xs x = 1 := HC.out
      have h2 : anX xs x = [] := by rw [HX.out, if_neg (by omega)]
      rw [h1, h2]
      clear hv ho hr hf ht HC h1 HX h2 hx hxf
      go_enter Try.func25, Try.ntmps25
      go_wp2_with fail
      refine (HV.out _ E0.out).mono ?_
      rintro e w1 ⟨rfl, hb1⟩
      have X := Lib.hid (X.out.next hb1)
      have E := Lib.hid (ext_trans E0.out hb1)
      clear hb1 E0
      have y0 := X.out.at 0 _ rfl
      have y1 := X.out.at 1 _ rfl
      have y2 := X.out.at 2 _ rfl
      have y3 := X.out.at 3 _ rfl
      have y4 := X.out.at 4 _ rfl
      have y5 := X.out.at 5 _ rfl
      have y6 := X.out.at 6 _ rfl
      have y7 := X.out.at 7 _ rfl
      go_wp2_with fail
      refine (HN.out _ E.out).mono ?_
      rintro e w2 ⟨rfl, hb2⟩
      go_wp2
      go_ret2
      exact RetNtL.nil_ 1 (ext_trans E.out hb2)
    · have HP : Hid (∀ W : World, Below w.heap.size w W → Calls Try.prog 79 #[.slice A xs.length c, .string x.name] W fun e w' => ∃ k : Nat, k ≤ xs.length ∧ Spl x.name xs k k ∧ e = .returned (.tuple #[.int .i64 (k : Int), .bool (fdB x.name xs k)]) ∧ Below W.heap.size W w') := fun W hb => placeOf_any A c xs x.name W (hr.next hb) hl (validNt_mono hv x.name)
      have HQ := Lib.hid (fun (k : Nat) (h1 : k ≤ xs.length) (h2 : Spl x.name xs k k) => fndN_spl hv h2 h1)
      have HAK := Lib.hid (fun (k : Nat) (h1 : k ≤ xs.length) (h2 : Spl x.name xs k k) (h3 : fdB x.name xs k = false) => anK_spl hv h2 h1 h3 xs.length h1 (Nat.le_refl _))
      have hle := validNt_len hv
      obtain ⟨rs, hmap, hrd⟩ := hr.rows
      have hlen : rs.length = xs.length := by rw [← hmap, List.length_map]
      have HCP : Hid (∀ W : World, Below w.heap.size w W → Calls Try.prog 89 #[.slice A xs.length c] W (RetNts W xs)) := fun W hb => by
        have := copyNotes_any A c rs W (hrd.next hb) (by omega) (fun r hr' => ht _ (by rw [← hmap]; exact List.mem_map_of_mem hr'))
        rwa [hmap, hlen] at this
      have HCN : Hid (∀ W : World, Below w.heap.size w W → Calls Try.prog 80 #[.agg #[.string x.name, .int .i64 x.kind, .int .i64 x.num, .int .i64 x.den, .slice T x.terms.length ct, .int .i64 x.sp, .int .i64 x.sd, .int .i64 x.sq]] W (RetNt W x)) := fun W hb => copyNote_any x T ct W (hx.next hb) hxl
      unfold RetNts at HCP
      unfold RetNt ntV at HCN
      rw [hv] at HV HC
      rw [ho] at HN HC
      clear hv ho hr hf ht hrd hmap hlen hx hxf
      go_enter Try.func25, Try.ntmps25
      go_wp2_with fail
      refine (HV.out _ E0.out).mono ?_
      rintro e w1 ⟨rfl, hb1⟩
      have X := Lib.hid (X.out.next hb1)
      have E := Lib.hid (ext_trans E0.out hb1)
      clear hb1 E0
      have y0 := X.out.at 0 _ rfl
      have y1 := X.out.at 1 _ rfl
      have y2 := X.out.at 2 _ rfl
      have y3 := X.out.at 3 _ rfl
      have y4 := X.out.at 4 _ rfl
      have y5 := X.out.at 5 _ rfl
      have y6 := X.out.at 6 _ rfl
      have y7 := X.out.at 7 _ rfl
      go_wp2_with fail
      refine (HN.out _ E.out).mono ?_
      rintro e w2 ⟨rfl, hb2⟩
      have X := Lib.hid (X.out.next hb2)
      have E := Lib.hid (ext_trans E.out hb2)
      clear hb2
      clear y0 y1 y2 y3 y4 y5 y6 y7
      have y0 := X.out.at 0 _ rfl
      have y1 := X.out.at 1 _ rfl
      have y2 := X.out.at 2 _ rfl
      have y3 := X.out.at 3 _ rfl
      have y4 := X.out.at 4 _ rfl
      have y5 := X.out.at 5 _ rfl
      have y6 := X.out.at 6 _ rfl
      have y7 := X.out.at 7 _ rfl
      go_wp2_with fail
      refine (HP.out _ E.out).mono ?_
      rintro e w3 ⟨k, hk, hsp, rfl, hb3⟩
      have X := Lib.hid (X.out.next hb3)
      have E := Lib.hid (ext_trans E.out hb3)
      have hfn := HQ.out k hk hsp
      clear y0 y1 y2 y3 y4 y5 y6 y7
      cases hfd : fdB x.name xs k
      · rw [hfd, if_neg (by simp)] at hfn
        have hak := HAK.out k hk hsp hfd
        by_cases h40 : xs.length = 40
        · have h1 : anC xs x = 5 := by rw [HC.out, hfn, if_pos h40]; rfl
          have h2 : anX xs x = [] := by rw [HX.out, if_neg (by omega)]
          have H1 := Lib.hid h1
          have H2 := Lib.hid h2
          have h40' : ((xs.length : Int) == 40) = true := by rw [h40]; rfl
          clear h1 h2 hfn hfd hak h40 hb3 hsp
          go_wp2
          go_ret2
          rw [H1.out, H2.out]
          exact RetNtL.nil_ 5 E.out
        · have h1 : anC xs x = 0 := by rw [HC.out, hfn, if_neg h40]; rfl
          have h2 : anX xs x = xs.take k ++ [x] ++ xs.drop k := by rw [HX.out, if_pos h1, hak]
          have H1 := Lib.hid h1
          have H2 := Lib.hid h2
          have h40' : ((xs.length : Int) == 40) = false := by rw [beq_eq_false_iff_ne]; omega
          have hbw : w.heap.size < w3.heap.size := X.out.lt
          clear h1 h2 hfn hfd hak h40 hb3 hsp HV HN HP HQ HAK HC HX
          have HCK : Hid (∀ W : World, Below w3.heap.size w3 W → (W.cell? ⟨w.heap.size, 0, none⟩ = some (.string x.name) ∧ W.cell? ⟨w.heap.size, 1, none⟩ = some (.int .i64 x.kind) ∧ W.cell? ⟨w.heap.size, 2, none⟩ = some (.int .i64 x.num) ∧ W.cell? ⟨w.heap.size, 3, none⟩ = some (.int .i64 x.den) ∧ W.cell? ⟨w.heap.size, 4, none⟩ = some (.slice T x.terms.length ct) ∧ W.cell? ⟨w.heap.size, 5, none⟩ = some (.int .i64 x.sp) ∧ W.cell? ⟨w.heap.size, 6, none⟩ = some (.int .i64 x.sd) ∧ W.cell? ⟨w.heap.size, 7, none⟩ = some (.int .i64 x.sq))) := fun W hb => ⟨(X.out.next hb).at 0 _ rfl, (X.out.next hb).at 1 _ rfl, (X.out.next hb).at 2 _ rfl, (X.out.next hb).at 3 _ rfl, (X.out.next hb).at 4 _ rfl, (X.out.next hb).at 5 _ rfl, (X.out.next hb).at 6 _ rfl, (X.out.next hb).at 7 _ rfl⟩
          go_wp2_with fail
          go_region_held3 (fun W => (W.cell? ⟨w.heap.size, 0, none⟩ = some (.string x.name) ∧ W.cell? ⟨w.heap.size, 1, none⟩ = some (.int .i64 x.kind) ∧ W.cell? ⟨w.heap.size, 2, none⟩ = some (.int .i64 x.num) ∧ W.cell? ⟨w.heap.size, 3, none⟩ = some (.int .i64 x.den) ∧ W.cell? ⟨w.heap.size, 4, none⟩ = some (.slice T x.terms.length ct) ∧ W.cell? ⟨w.heap.size, 5, none⟩ = some (.int .i64 x.sp) ∧ W.cell? ⟨w.heap.size, 6, none⟩ = some (.int .i64 x.sd) ∧ W.cell? ⟨w.heap.size, 7, none⟩ = some (.int .i64 x.sq)))
            (first
              | exact HCK.out _ (ext_drew (Below.refl _ _))
              | exact HCK.out _ B4.out
              | exact HCK.out _ (ext_alloc B4.out _)
              | exact HCK.out _ B5.out
              | exact HCK.out _ (ext_alloc B5.out _)
              | exact HCK.out _ B6.out)
            (first
              | (go_at_call 89; (with_reducible refine (HCP.out _ (ext_drew E.out)).mono ?_); rintro e w4 ⟨qs, own, v, rfl, hq, hO4⟩; have HQ4 := Lib.hid hq; have hqa : qs.length ≤ xs.length := (by rw [← hq, List.length_map]; exact Nat.le_refl _); have hqb : k ≤ qs.length := (by rw [← hq, List.length_map] at hk; exact hk); have O4 := Lib.hid hO4; have B4 := Lib.hid (ext_trans (ext_drew (Below.refl w3.heap.size w3)) hO4.bel); clear hq hO4)
              | (go_at_call 80; (with_reducible refine (HCN.out _ (ext_trans E.out B4.out)).mono ?_); rintro e w5 ⟨B5a, d5, rfl, hw5, hb5⟩; have B5 := Lib.hid (ext_trans B4.out hb5); have W5 := Lib.hid hw5; have HB5 := Lib.hid hb5; clear hw5 hb5)
              | (go_at_call 96; go_must (with_reducible refine (insert_out O4.out hqb (by omega) HB5.out W5.out).mono ?_); rintro e w6 ⟨own6, g6, cap6, rfl, hO6⟩; have O6 := Lib.hid hO6; have B6 := Lib.hid (ext_trans (ext_drew (Below.refl w3.heap.size w3)) hO6.bel); clear hO6))
          go_wp2
          go_ret2
          rw [H1.out, H2.out]
          exact OutNt.retL O6.out (ext_drew E.out) 0 (by rw [List.map_append, List.map_append, List.map_take, List.map_drop, HQ4.out]; rfl)
      · rw [hfd, if_pos rfl] at hfn
        have h1 : anC xs x = 4 := by rw [HC.out, hfn, if_pos (show (true && true) = true from rfl), if_neg (by omega)]
        have h2 : anX xs x = [] := by rw [HX.out, if_neg (by omega)]
        have H1 := Lib.hid h1
        have H2 := Lib.hid h2
        clear h1 h2 hfn hfd hb3 hsp
        go_wp2
        go_ret2
        rw [H1.out, H2.out]
        exact RetNtL.nil_ 4 E.out
end Go.Proofs.Ytdjnblkgeaphmaa
