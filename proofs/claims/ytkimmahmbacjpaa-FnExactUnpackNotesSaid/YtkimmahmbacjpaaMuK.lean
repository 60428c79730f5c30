/- XPackIW XPackIV XPackSV XPackSW in one text. No condition but those that each theorem names. -/
import Derived.Test.YtkimmahmbacjpaaPackP
import Derived.Test.YtkimmahmbacjpaaKeepA
import Derived.Deep.RegionHeld3
/- PackNotes, the program's walk. No condition but those that each theorem names. -/
namespace Go.Proofs.Ytkimmahmbacjpaa
open Go.RowKit Go.Sort Go.Maps Go.WideMaps

set_option maxRecDepth 100000 in
set_option maxHeartbeats 4000000 in
theorem iPackNotes_bad (A : Option Addr) (c : Nat) (xs : List Nt) (w : World) (hr : RdNt w w.heap.size A xs) (hf : ∀ x ∈ xs, x.fits) (hl : xs.length ≤ maxLen) (hv : validNt xs = false) :
    Calls Try.prog 26 #[.slice A xs.length c] w fun e w' => e = .returned (.tuple #[.string ByteArray.empty, .int .i64 1]) ∧ Below w.heap.size w w' := by
  have HC := Lib.hid (iValidNotes_any A c xs w hr hf hl)
  rw [hv] at HC
  clear hv hr hf
  go_enter Try.func26, Try.ntmps26
  go_wp2_with fail
  refine HC.out.mono ?_
  rintro e w1 ⟨rfl, hb1⟩
  go_wp2
  go_ret2
  exact ⟨rfl, hb1⟩
end Go.Proofs.Ytkimmahmbacjpaa

/- PackNotes, the program's walk over a sound notebook. No condition but those that each theorem names. -/
namespace Go.Proofs.Ytkimmahmbacjpaa
open Go.RowKit Go.Sort Go.Maps Go.WideMaps

/-- A row of bytes does not lie in a block that begins with a string. -/
theorem OutB.farBox {w : World} {base : Nat} {out : List Int} {v : Value} {wr : World} {g : Nat} {s : ByteArray} {vs : List Value} (h : OutB w base out v wr) (h0 : 0 < out.length) (hb : BoxV g (.string s :: vs) wr) : v.ownBlock ≠ some g := by
  intro e
  obtain ⟨g', cap, rfl, _, _, _, _, hc⟩ := own_at h.1 h0
  have e' : g' = g := by injection e
  subst e'
  obtain ⟨z, hz⟩ : ∃ z, out[0]? = some z := ⟨_, List.getElem?_eq_getElem h0⟩
  have c1 := hc 0 (.int .u8 z) (by simp [hz])
  have c2 := hb.at 0 _ rfl
  rw [c1] at c2
  cases c2
theorem take_bds {xs : List Nt} (h : validNt xs = true) (k : Nat) : ([78, (xs.length : Int)] ++ ((xs.take k).map noteB).flatten).length ≤ 28002 := by
  obtain ⟨h1, h2⟩ := valid_all h
  have h3 := books_length (xs := xs.take k) (fun x hx => noteB_length (ntOk_bds (h2 x (List.mem_of_mem_take hx))).1 (ntOk_nu (h2 x (List.mem_of_mem_take hx))).1 (ntOk_nu (h2 x (List.mem_of_mem_take hx))).2)
  have h4 : (xs.take k).length ≤ 40 := by rw [List.length_take]; omega
  simp only [List.length_append, List.length_cons, List.length_nil]
  omega
theorem ntOk_terms {x : Nt} (h : ntOk x = true) : x.terms.length ≤ 60 := by
  have h3 := ntOk_nu h
  obtain ⟨_, hk⟩ := ntOk_bds h
  unfold ntOk at h
  rw [Bool.and_eq_true] at h
  have h := h.2
  rcases hk with hk | hk | hk
  · rw [if_pos hk] at h
    simp [Nt.zT] at h
    simp [h.2.1]
  · have h4 := h3.2
    unfold nuL at h4
    rw [if_neg (by omega), if_pos hk] at h4
    simp at h4
    exact h4
  · rw [if_neg (by omega), if_neg (by omega), if_pos hk] at h
    simp [Nt.zT] at h
    simp [h.2.2]
/-- The numbers' row lies apart from the bytes' row. -/
def Far (v : Value) (A : Option Addr) : Prop := ∀ b off, A = some ⟨b, off, none⟩ → v.ownBlock ≠ some b
structure PkIn (w : World) (pre ns : List Int) (A : Option Addr) (v : Value) (wr : World) : Prop where
  out : OutB w w.heap.size pre v wr
  rdn : Rd (Value.int .i64) wr wr.heap.size A ns
  far : 0 < ns.length → Far v A
theorem PkIn.start {w W wr : World} {pre ns : List Int} {A : Option Addr} {v : Value} (h : OutB w w.heap.size pre v W) (hb : Below W.heap.size W wr) (hw : Wr (Value.int .i64) wr W.heap.size A ns) : PkIn w pre ns A v wr :=
  ⟨h.next hb, hw.rd, fun h0 b off e => by
    obtain ⟨b', off', e', h1, _⟩ := hw h0
    rw [e] at e'
    injection e' with e'
    injection e' with e1 e2
    subst e1
    intro e3
    have := (h.1.lt b e3).2
    omega⟩
theorem PkIn.next {w wr w2 : World} {pre ns : List Int} {A : Option Addr} {v : Value} (h : PkIn w pre ns A v wr) (hb : Below wr.heap.size wr w2) : PkIn w pre ns A v w2 :=
  ⟨h.out.next hb, (h.rdn.below hb).more hb.size, h.far⟩
theorem PkIn.push {w wr w3 : World} {pre ns news : List Int} {A : Option Addr} {v v' : Value} (h : PkIn w pre ns A v wr) (m : Nat) (hm : m = news.length)
    (hown3 : w3.ownsRow w.heap.size 5 1 v' (pre.length + m) (pre.map (Value.int .u8) ++ news.map (Value.int .u8))) (hg : wr.grownBy w3 v.ownBlock) (hat : v'.ownBlock = v.ownBlock ∨ v'.ownBlock = some wr.heap.size) : PkIn w (pre ++ news) ns A v' w3 := by
  refine ⟨h.out.pushL (Nat.le_refl _) (Below.refl _ _) news m v' w3 hm hown3 hg, fun h0 => ?_, fun h0 b off e => ?_⟩
  · obtain ⟨b, off, e, hlt, hc⟩ := h.rdn h0
    refine ⟨b, off, e, Nat.lt_of_lt_of_le hlt hg.size, fun j x hx => ?_⟩
    exact (World.cell?_of_block (a := ⟨b, off + j, none⟩) (hg.block b hlt (fun e2 => h.far h0 b off e e2.symm))).trans (hc j x hx)
  · rcases hat with e2 | e2
    · rw [e2]; exact h.far h0 b off e
    · rw [e2]
      intro e3
      injection e3 with e3
      obtain ⟨b', off', e', hlt, _⟩ := h.rdn h0
      rw [e] at e'
      injection e' with e'
      injection e' with e1 _
      omega
theorem bytes_news {xs : List Int} {w : World} {b off : Nat} (hr : ∀ j x, xs[j]? = some x → w.cell? ⟨b, off + j, none⟩ = some (Value.int .u8 x)) : ∀ j u, (xs.map (Value.int .u8))[j]? = some u → w.cell? ((⟨b, off, none⟩ : Addr).add j) = some u := by
  intro j u hu
  rw [List.getElem?_map] at hu
  cases hx : xs[j]? with
  | none => rw [hx] at hu; cases hu
  | some x =>
    rw [hx] at hu
    obtain rfl := Option.some.inj hu
    have ea : (⟨b, off, none⟩ : Addr).add j = ⟨b, off + j, none⟩ := by simp [Addr.add]
    rw [ea]
    exact hr j x hx
theorem bookOut {w : World} {B : Nat} {xs : List Nt} {v : Value} {wr : World} (h : OutB w B ([78, (xs.length : Int)] ++ (xs.map noteB).flatten) v wr) : OutB w B (bookB xs) v wr := h
set_option maxRecDepth 100000 in
set_option maxHeartbeats 4000000 in
theorem iPackNotes_good (A : Option Addr) (c : Nat) (xs : List Nt) (w : World) (hr : RdNt w w.heap.size A xs) (hf : ∀ x ∈ xs, x.fits) (hl : xs.length ≤ 40) (hv : validNt xs = true) :
    Calls Try.prog 26 #[.slice A xs.length c] w fun e w' => e = .returned (.tuple #[.string (endB (bookB xs)), .int .i64 0]) ∧ Below w.heap.size w w' := by
  obtain ⟨ti, hi, hz0, hz1, hz2⟩ := info_parts info8
  have HI := Lib.hid hi
  have HC := Lib.hid (iValidNotes_any A c xs w hr hf (by unfold maxLen; omega))
  rw [hv] at HC
  have HR := Lib.hid hr
  have HV := Lib.hid hv
  have HF := Lib.hid hf
  clear hv hr hf hi
  have v1 : IntKind.u8.wrap (xs.length : Int) = (xs.length : Int) := by simp [IntKind.wrap, IntKind.bits, IntKind.signed]; omega
  go_enter Try.func26, Try.ntmps26
  go_wp2_with fail
  refine HC.out.mono ?_
  rintro e w1 ⟨rfl, hb1⟩
  go_wp2_with fail
  have HO : Hid (OutB w w.heap.size ([78, (xs.length : Int)] ++ ((xs.take 0).map noteB).flatten) (.slice (some ⟨w1.heap.size, 0, none⟩) 2 2) (w1.alloc (.cells #[.int .u8 78, .int .u8 (xs.length : Int)] 5))) := by
    refine ⟨?_, ext_alloc hb1 _, by have := hb1.size; simp; omega⟩
    have h := World.ownsRow_lit (base := w.heap.size) (e := 5) (size := 1) w1 #[.int .u8 78, .int .u8 (xs.length : Int)] 2 hb1.size (by unfold maxLen; omega) rfl
    simpa using h
  generalize w1.alloc (.cells #[.int .u8 78, .int .u8 (xs.length : Int)] 5) = W0 at *
  go_loopw [4, 19] (fun v t wr => ∃ k : Nat, k ≤ xs.length ∧ t = .int .i64 k ∧ Hid (OutB w w.heap.size ([78, (xs.length : Int)] ++ ((xs.take k).map noteB).flatten) v wr)) (fun _ t _ => xs.length - (intOf t).toNat)
  case atStart => exact ⟨0, by omega, rfl, HO.out⟩
  case round =>
    obtain ⟨k, hk, rfl, HV1⟩ := hrel
    clear HO
    by_cases hlt : k < xs.length
    · obtain ⟨b, off, rfl, hb, hc⟩ := HR.out (by omega)
      obtain ⟨x, hxk⟩ : ∃ x, xs[k]? = some x := ⟨_, List.getElem?_eq_getElem hlt⟩
      obtain ⟨T, ct, cr0, cT⟩ := hc k x hxk
      obtain ⟨c0, c1, c2, c3, c4, c5, c6, c7⟩ := (cr0.below HV1.out.2.1 hb).nt
      have hox := (valid_all HV.out).2 x (List.mem_of_getElem? hxk)
      obtain ⟨n12, nk⟩ := ntOk_bds hox
      have ht60 := ntOk_terms hox
      have HNU := Lib.hid (ntOk_nu hox)
      have hP0 := take_bds HV.out k
      have HST : Hid ([78, (xs.length : Int)] ++ ((xs.take (k + 1)).map noteB).flatten = ((([78, (xs.length : Int)] ++ ((xs.take k).map noteB).flatten) ++ [(x.name.size : Int)]) ++ byI x.name ++ [x.kind]) ++ pkA (nuL x)) := by
        unfold Hid
        rw [book_step hxk]
        simp [noteB]
      have hpos : 0 < ([78, (xs.length : Int)] ++ ((xs.take k).map noteB).flatten).length := by simp
      have i0 : (0 : Int) ≤ (k : Int) := by omega
      have i1 : (k : Int) < (xs.length : Int) := by omega
      have u1 : IntKind.u8.wrap (x.name.size : Int) = (x.name.size : Int) := by simp [IntKind.wrap, IntKind.bits, IntKind.signed]; omega
      have u2 : IntKind.u8.wrap x.kind = x.kind := by simp [IntKind.wrap, IntKind.bits, IntKind.signed]; omega
      have HNO : Hid (∀ W, Below w.heap.size w W → Calls Try.prog 55 #[.agg #[.string x.name, .int .i64 x.kind, .int .i64 x.num, .int .i64 x.den, .slice T x.terms.length ct, .int .i64 x.sp, .int .i64 x.sd, .int .i64 x.sq]] W (RetList W (nuL x))) := fun W hbW => numbersOf_any x T ct W ((cT.1.below hbW).more hbW.size) (by omega)
      have HBL := Lib.hid (byI_length x.name)
      clear cr0 cT hc hxk hox
      generalize [78, (xs.length : Int)] ++ ((xs.take k).map noteB).flatten = P at *
      generalize nuL x = ns at *
      obtain ⟨wo, rfl⟩ : ∃ wo : World, wo = wr := ⟨_, rfl⟩
      have B1 := Lib.hid (BoxV.new wo #[.string x.name, .int .i64 x.kind, .int .i64 x.num, .int .i64 x.den, .slice T x.terms.length ct, .int .i64 x.sp, .int .i64 x.sd, .int .i64 x.sq] 36)
      have V1 := Lib.hid (HV1.out.next (ext1 wo (.cells #[.string x.name, .int .i64 x.kind, .int .i64 x.num, .int .i64 x.den, .slice T x.terms.length ct, .int .i64 x.sp, .int .i64 x.sd, .int .i64 x.sq] 36)))
      have hown := V1.out.1
      have hbz := HV1.out.2.2
      go_wp2_with (at_builtin; refine wpList_append_own _ rfl _ _ 28 rfl w.heap.size 5 ti (.int .u8 0) 1 1 Try.underlying28 HI.out hz0 hz1 hz2 rfl (by decide) _ _ _ rfl (hown.alloc _) ⟨wo.heap.size + 1, 0, none⟩ 1 1 [.int .u8 (x.name.size : Int)] rfl rfl ?h1c1 ?h1c2 ?h1c3 ?h1c4 ?h1c5 ?_)
      case h1c2 => simp [Value.oneCell']
      case h1c3 => unfold maxLen; omega
      case h1c4 => omega
      case h1c5 => first | omega | (simp; omega)
      intro v2 w2 hown2 hgrow2 _
      have V2 := Lib.hid (OutB.push V1.out (Nat.le_refl _) _ _ hown2 hgrow2)
      have B2 := Lib.hid ((B1.out.alloc _).grown hgrow2 (V1.out.farBox hpos B1.out))
      have hlp2 : (P ++ [(x.name.size : Int)]).length ≤ 28003 ∧ 0 < (P ++ [(x.name.size : Int)]).length := by simp; omega
      clear hown2 hgrow2 hown B1 V1 c0 c1 c2 c3 c4 c5 c6 c7 HV1
      generalize P ++ [(x.name.size : Int)] = P2 at *
      obtain ⟨hlp2, hlq2⟩ := hlp2
      have x0 := B2.out.at 0 _ rfl
      have hown := V2.out.1
      have hbz2 := V2.out.2.2
      go_wp2_with (at_builtin; refine Go.Lib.wpList_append_own_string _ rfl _ _ 28 9 rfl w.heap.size 5 ti Try.underlying28 Try.underlying9 HI.out hz0 hz1 hz2 _ _ _ rfl hown x.name rfl ?h2c3 ?h2c4 ?h2c5 ?_)
      case h2c3 => unfold maxLen; omega
      case h2c4 => omega
      case h2c5 => omega
      intro v3 w3 hown3 hgrow3 _
      rw [strCells_byI] at hown3
      have V3 := Lib.hid (OutB.pushL V2.out (Nat.le_refl _) (Below.refl _ _) (byI x.name) x.name.size v3 w3 HBL.out.symm hown3 hgrow3)
      have B3 := Lib.hid (B2.out.grown hgrow3 (V2.out.farBox (by omega) B2.out))
      have hlp3 : (P2 ++ byI x.name).length ≤ 28015 ∧ 0 < (P2 ++ byI x.name).length := by simp [HBL.out]; omega
      clear hown3 hgrow3 hown B2 V2 x0
      generalize P2 ++ byI x.name = P3 at *
      obtain ⟨hlp3, hlq3⟩ := hlp3
      have x1 := B3.out.at 1 _ rfl
      have hown := V3.out.1
      have hbz3 := V3.out.2.2
      go_wp2_with (at_builtin; refine wpList_append_own _ rfl _ _ 28 rfl w.heap.size 5 ti (.int .u8 0) 1 1 Try.underlying28 HI.out hz0 hz1 hz2 rfl (by decide) _ _ _ rfl (hown.alloc _) ⟨w3.heap.size, 0, none⟩ 1 1 [.int .u8 x.kind] rfl rfl ?h3c1 ?h3c2 ?h3c3 ?h3c4 ?h3c5 ?_)
      case h3c1 => exact cell_one_new _ _ _
      case h3c2 => simp [Value.oneCell']
      case h3c3 => unfold maxLen; omega
      case h3c4 => omega
      case h3c5 => first | omega | (simp; omega)
      intro v4 w4 hown4 hgrow4 _
      have V4 := Lib.hid (OutB.push V3.out (Nat.le_refl _) _ _ hown4 hgrow4)
      have B4 := Lib.hid ((B3.out.alloc _).grown hgrow4 (V3.out.farBox (by omega) B3.out))
      have hlp4 : (P3 ++ [x.kind]).length ≤ 28016 := by simp; omega
      clear hown4 hgrow4 hown B3 V3 x1
      generalize P3 ++ [x.kind] = P4 at *
      have x0 := B4.out.at 0 _ rfl
      have x1 := B4.out.at 1 _ rfl
      have x2 := B4.out.at 2 _ rfl
      have x3 := B4.out.at 3 _ rfl
      have x4 := B4.out.at 4 _ rfl
      have x5 := B4.out.at 5 _ rfl
      have x6 := B4.out.at 6 _ rfl
      have x7 := B4.out.at 7 _ rfl
      go_wp2_with fail
      refine (HNO.out _ V4.out.2.1).mono ?_
      rintro e w5 ⟨A5, c5, rfl, hw5, hb5⟩
      have V5 := Lib.hid (PkIn.start V4.out hb5 hw5)
      clear x0 x1 x2 x3 x4 x5 x6 x7 hw5 hb5 V4 B4 HNO
      have hn61 := HNU.out.2
      have HBN := Lib.hid HNU.out.1
      clear HNU
      go_wp2_with fail
      go_loopw [4, 43] (fun v t wr => ∃ j : Nat, j ≤ ns.length ∧ t = .int .i64 j ∧ Hid (PkIn w (P4 ++ pkA (ns.take j)) ns A5 v wr)) (fun _ t _ => ns.length - (intOf t).toNat)
      case atStart => exact ⟨0, by omega, rfl, by unfold Hid; simpa [pkA] using V5.out⟩
      case round =>
        obtain ⟨j, hj, rfl, HV6⟩ := hrel
        clear V5
        by_cases hlj : j < ns.length
        · obtain ⟨bn, offn, rfl, hbn, hcn⟩ := HV6.out.rdn (by omega)
          obtain ⟨n, hnj⟩ : ∃ n, ns[j]? = some n := ⟨_, List.getElem?_eq_getElem hlj⟩
          have cn := hcn j n hnj
          obtain ⟨m1, m2⟩ := HBN.out n (List.mem_of_getElem? hnj)
          have HTK : Hid (P4 ++ pkA (ns.take (j + 1)) = (P4 ++ pkA (ns.take j)) ++ pkL (zigN n)) := by
            unfold Hid
            rw [List.take_add_one, hnj]
            show P4 ++ pkA (ns.take j ++ [n]) = _
            rw [pkA_snoc, List.append_assoc]
          have hpl := pkL_zig m1 m2
          have hpp : 0 < (pkL (zigN n)).length := by rw [pkL]; split <;> simp
          have hpa := pkA_length (ns := ns.take j) (fun m hm => HBN.out m (List.mem_of_mem_take hm))
          have htl : (ns.take j).length ≤ 61 := by rw [List.length_take]; omega
          have hpl2 : (P4 ++ pkA (ns.take j)).length ≤ 30000 := by rw [List.length_append]; omega
          have HPK := Lib.hid (fun W : World => packNumber_any n W m1 m2)
          have j0 : (0 : Int) ≤ (j : Int) := by omega
          have j1 : (j : Int) < (ns.length : Int) := by omega
          clear hcn hnj hpa htl
          generalize P4 ++ pkA (ns.take j) = Q at *
          generalize pkL (zigN n) = L at *
          go_wp2_with fail
          refine (HPK.out _).mono ?_
          rintro e w6 ⟨A6, c6, rfl, hw6, hb6⟩
          have V6 := Lib.hid (HV6.out.next hb6)
          obtain ⟨b6, off6, rfl, hb6l, hb6h, hc6, _⟩ := hw6 hpp
          have HC6 := Lib.hid hc6
          have hown := V6.out.out.1
          have hbz6 := V6.out.out.2.2
          clear hc6 cn HV6 hw6
          go_wp2_with (at_builtin; refine wpList_append_own_at _ rfl _ _ 28 rfl w.heap.size 5 ti (.int .u8 0) 1 1 Try.underlying28 HI.out hz0 hz1 hz2 rfl (by decide) _ _ _ rfl hown ⟨b6, off6, none⟩ L.length c6 (L.map (Value.int .u8)) rfl (by simp) ?h4c1 ?h4c2 ?h4c3 ?h4c4 ?h4c5 ?_)
          case h4c1 => exact bytes_news HC6.out
          case h4c2 => intro u hu; obtain ⟨y, _, rfl⟩ := List.mem_map.1 hu; rfl
          case h4c3 => unfold maxLen; omega
          case h4c4 => omega
          case h4c5 => omega
          intro v7 w7 hown7 hgrow7 _ hat7
          have V7 := Lib.hid (V6.out.push L.length rfl hown7 hgrow7 hat7)
          clear hown7 hgrow7 hat7 hown
          go_wp2
          go_roundw
          case rel => exact ⟨j + 1, by omega, by go_num, by rw [HTK.out]; exact V7.out⟩
          case measure => simp [intOf]; omega
        · have hj' : j = ns.length := by omega
          have hE := HV6.out.out
          rw [hj', List.take_length] at hE
          have HE := Lib.hid hE
          have j1 : ¬ (j : Int) < (ns.length : Int) := by omega
          clear HV6 hj' hE
          go_wp2
          go_roundw
          case rel => exact ⟨k + 1, by omega, by go_num, by rw [HST.out]; exact HE.out⟩
          case measure => simp [intOf]; omega
    · have hk' : k = xs.length := by omega
      obtain ⟨b1, b2, b3⟩ := book_bds HV.out
      have hv2 := HV1.out
      rw [hk', List.take_length] at hv2
      have HV2 := Lib.hid (bookOut hv2)
      clear hv2
      obtain ⟨A4, c4, rfl, hw4⟩ := HV2.out.slice
      obtain ⟨k1, k2⟩ := ckS_bd (bookB xs) 1 b2 (by omega) (by omega)
      have HS := Lib.hid (checksum_any A4 c4 (bookB xs) wr hw4.rd b2 (by omega))
      have HE : Hid (endB (bookB xs) = byS (bookB xs ++ [ckS (bookB xs) 1 / 256, ckS (bookB xs) 1 % 256])) := rfl
      have hb2 : Hid (∀ x ∈ bookB xs ++ [ckS (bookB xs) 1 / 256, ckS (bookB xs) 1 % 256], 0 ≤ x ∧ x ≤ 255) := by
        intro x hx
        rcases List.mem_append.1 hx with h | h
        · exact b2 x h
        · simp only [List.mem_cons, List.not_mem_nil, or_false] at h
          rcases h with rfl | rfl <;> omega
      have i1 : ¬ (k : Int) < (xs.length : Int) := by omega
      clear HV1 hw4 b2 HR HF HV hk'
      generalize ckS (bookB xs) 1 = s at *
      have v3 : s.tdiv 256 = s / 256 := Int.tdiv_eq_ediv_of_nonneg (by omega)
      have v4 : s.tmod 256 = s % 256 := Int.tmod_eq_emod_of_nonneg (by omega)
      have v5 : IntKind.i64.wrap (s / 256) = s / 256 := IntWalk.i64_in _ (by omega)
      have v6 : IntKind.i64.wrap (s % 256) = s % 256 := IntWalk.i64_in _ (by omega)
      have v7 : IntKind.u8.wrap (s / 256) = s / 256 := by simp [IntKind.wrap, IntKind.bits, IntKind.signed] <;> omega
      have v8 : IntKind.u8.wrap (s % 256) = s % 256 := by simp [IntKind.wrap, IntKind.bits, IntKind.signed] <;> omega
      go_wp2_with fail
      refine HS.out.mono ?_
      rintro e w2 ⟨rfl, hb3⟩
      have HV3 := Lib.hid (HV2.out.next hb3)
      have hown := HV3.out.1
      have hbz := HV3.out.2.2
      go_wp2_with (at_builtin; refine wpList_append_own _ rfl _ _ 28 rfl w.heap.size 5 ti (.int .u8 0) 1 1 Try.underlying28 HI.out hz0 hz1 hz2 rfl (by decide) _ _ _ rfl (hown.alloc _) ⟨w2.heap.size, 0, none⟩ 2 2 [.int .u8 (s / 256), .int .u8 (s % 256)] rfl rfl ?h5c1 ?h5c2 ?h5c3 ?h5c4 ?h5c5 ?_)
      case h5c1 => exact news_row w2 _ _ rfl
      case h5c2 => simp [Value.oneCell']
      case h5c3 => unfold maxLen; omega
      case h5c4 => omega
      case h5c5 => first | omega | (simp; omega)
      intro v' w4 hown3 hgrow _
      have HV4 := OutB.pushL HV3.out (Nat.le_refl _) (ext1 w2 _) [s / 256, s % 256] 2 v' w4 rfl hown3 hgrow
      obtain ⟨A5, c5, rfl, hw5⟩ := HV4.slice
      have hcv4 := conv_bytes (c := c5) hw5.rd hb2.out (by simp)
      rw [← HE.out, show (bookB xs ++ [s / 256, s % 256]).length = (bookB xs).length + 2 from by simp] at hcv4
      have HBW := Lib.hid HV4.2.1
      clear hown3 hgrow hw5 hown HV4
      generalize hEE : endB (bookB xs) = E at *
      have HEE := Lib.hid hEE
      clear hEE
      go_wp2
      go_ret2
      exact ⟨by rw [HEE.out]; rfl, HBW.out⟩
end Go.Proofs.Ytkimmahmbacjpaa

/- PackNotes, the reference's walk over a sound notebook. No condition but those that each theorem names. -/
namespace Go.Proofs.Ytkimmahmbacjpaa
open Go.RowKit Go.Sort Go.Maps Go.WideMaps

theorem pkA_cons (n : Int) (ns : List Int) : pkA (n :: ns) = pkL (zigN n) ++ pkA ns := by simp [pkA]
theorem pkA_nil : pkA [] = [] := rfl
theorem nuL_1 {x : Nt} (h : x.kind = 1) : nuL x = [x.num, x.den] := by unfold nuL; rw [if_pos h]
theorem nuL_2 {x : Nt} (h : x.kind = 2) : nuL x = (x.terms.length : Int) :: x.terms := by unfold nuL; rw [if_neg (by omega), if_pos h]
theorem nuL_3 {x : Nt} (h : x.kind = 3) : nuL x = [x.sp, x.sd, x.sq] := by unfold nuL; rw [if_neg (by omega), if_neg (by omega)]
set_option maxRecDepth 100000 in
set_option maxHeartbeats 3000000 in
theorem l27Pack_any (A : Option Addr) (c : Nat) (xs : List Nt) (w : World) (hr : RdNt w w.heap.size A xs) (hl : xs.length ≤ 40) (hv : validNt xs = true) :
    Calls Try.prog 23 #[.slice A xs.length c] w fun e w' => e = .returned (.string (endB (bookB xs))) ∧ Below w.heap.size w w' := by
  obtain ⟨ti, hi, hz0, hz1, hz2⟩ := info_parts info8
  have HI := Lib.hid hi
  have HR := Lib.hid hr
  have HV := Lib.hid hv
  clear hv hr hi
  have v1 : IntKind.u8.wrap (xs.length : Int) = (xs.length : Int) := by simp [IntKind.wrap, IntKind.bits, IntKind.signed]; omega
  go_enter Try.func23, Try.ntmps23
  go_wp2_with fail
  have HO : Hid (OutB w w.heap.size ([78, (xs.length : Int)] ++ ((xs.take 0).map noteB).flatten) (.slice (some ⟨w.heap.size, 0, none⟩) 2 2) (w.alloc (.cells #[.int .u8 78, .int .u8 (xs.length : Int)] 5))) := by
    refine ⟨?_, ext1 _ _, by simp⟩
    have h := World.ownsRow_lit (base := w.heap.size) (e := 5) (size := 1) w #[.int .u8 78, .int .u8 (xs.length : Int)] 2 (Nat.le_refl _) (by unfold maxLen; omega) rfl
    simpa using h
  generalize w.alloc (.cells #[.int .u8 78, .int .u8 (xs.length : Int)] 5) = W0 at *
  go_loopw [3, 4] (fun v t wr => ∃ k : Nat, k ≤ xs.length ∧ t = .int .i64 k ∧ Hid (OutB w w.heap.size ([78, (xs.length : Int)] ++ ((xs.take k).map noteB).flatten) v wr)) (fun _ t _ => xs.length - (intOf t).toNat)
  case atStart => exact ⟨0, by omega, rfl, HO.out⟩
  case round =>
    obtain ⟨k, hk, rfl, HV1⟩ := hrel
    clear HO
    by_cases hlt : k < xs.length
    · obtain ⟨b, off, rfl, hb, hc⟩ := HR.out (by omega)
      obtain ⟨x, hxk⟩ : ∃ x, xs[k]? = some x := ⟨_, List.getElem?_eq_getElem hlt⟩
      obtain ⟨T, ct, cr0, cT⟩ := hc k x hxk
      have HCR : Hid (∀ W, Below w.heap.size w W → NtAt W b (off + k * 8) x T ct) := fun W hbW => (cr0.below hbW hb).nt
      have HTR : Hid (∀ W, Below w.heap.size w W → Rd (Value.int .i64) W w.heap.size T x.terms) := fun W hbW => cT.1.below hbW
      have hox := (valid_all HV.out).2 x (List.mem_of_getElem? hxk)
      obtain ⟨n12, nk⟩ := ntOk_bds hox
      have ht60 := ntOk_terms hox
      have HNU := Lib.hid (ntOk_nu hox)
      have hP0 := take_bds HV.out k
      have HST : Hid ([78, (xs.length : Int)] ++ ((xs.take (k + 1)).map noteB).flatten = ((([78, (xs.length : Int)] ++ ((xs.take k).map noteB).flatten) ++ [(x.name.size : Int)]) ++ byI x.name ++ [x.kind]) ++ pkA (nuL x)) := by
        unfold Hid
        rw [book_step hxk]
        simp [noteB]
      have i0 : (0 : Int) ≤ (k : Int) := by omega
      have i1 : (k : Int) < (xs.length : Int) := by omega
      have u1 : IntKind.u8.wrap (x.name.size : Int) = (x.name.size : Int) := by simp [IntKind.wrap, IntKind.bits, IntKind.signed]; omega
      have u2 : IntKind.u8.wrap x.kind = x.kind := by simp [IntKind.wrap, IntKind.bits, IntKind.signed]; omega
      have HBL := Lib.hid (byI_length x.name)
      clear cr0 cT hc hxk hox
      generalize [78, (xs.length : Int)] ++ ((xs.take k).map noteB).flatten = P at *
      obtain ⟨wo, rfl⟩ : ∃ wo : World, wo = wr := ⟨_, rfl⟩
      have c0 := (HCR.out _ HV1.out.2.1).c0
      have hown := HV1.out.1
      have hbz := HV1.out.2.2
      go_wp2_with (at_builtin; refine wpList_append_own _ rfl _ _ 28 rfl w.heap.size 5 ti (.int .u8 0) 1 1 Try.underlying28 HI.out hz0 hz1 hz2 rfl (by decide) _ _ _ rfl (hown.alloc _) ⟨wo.heap.size, 0, none⟩ 1 1 [.int .u8 (x.name.size : Int)] rfl rfl ?h1c1 ?h1c2 ?h1c3 ?h1c4 ?h1c5 ?_)
      case h1c1 => exact cell_one_new _ _ _
      case h1c2 => simp [Value.oneCell']
      case h1c3 => unfold maxLen; omega
      case h1c4 => omega
      case h1c5 => first | omega | (simp; omega)
      intro v2 w2 hown2 hgrow2 _
      have V2 := Lib.hid (OutB.push HV1.out (Nat.le_refl _) _ _ hown2 hgrow2)
      have hlp2 : (P ++ [(x.name.size : Int)]).length ≤ 28003 ∧ 0 < (P ++ [(x.name.size : Int)]).length := by simp; omega
      clear hown2 hgrow2 hown c0 HV1
      generalize P ++ [(x.name.size : Int)] = P2 at *
      obtain ⟨hlp2, hlq2⟩ := hlp2
      have c0 := (HCR.out _ V2.out.2.1).c0
      have hown := V2.out.1
      have hbz2 := V2.out.2.2
      go_wp2_with (at_builtin; refine Go.Lib.wpList_append_own_string _ rfl _ _ 28 9 rfl w.heap.size 5 ti Try.underlying28 Try.underlying9 HI.out hz0 hz1 hz2 _ _ _ rfl hown x.name rfl ?h2c3 ?h2c4 ?h2c5 ?_)
      case h2c3 => unfold maxLen; omega
      case h2c4 => omega
      case h2c5 => omega
      intro v3 w3 hown3 hgrow3 _
      rw [strCells_byI] at hown3
      have V3 := Lib.hid (OutB.pushL V2.out (Nat.le_refl _) (Below.refl _ _) (byI x.name) x.name.size v3 w3 HBL.out.symm hown3 hgrow3)
      have hlp3 : (P2 ++ byI x.name).length ≤ 28015 ∧ 0 < (P2 ++ byI x.name).length := by simp [HBL.out]; omega
      clear hown3 hgrow3 hown V2 c0
      generalize P2 ++ byI x.name = P3 at *
      obtain ⟨hlp3, hlq3⟩ := hlp3
      have c1 := (HCR.out _ V3.out.2.1).c1
      have hown := V3.out.1
      have hbz3 := V3.out.2.2
      go_wp2_with (at_builtin; refine wpList_append_own _ rfl _ _ 28 rfl w.heap.size 5 ti (.int .u8 0) 1 1 Try.underlying28 HI.out hz0 hz1 hz2 rfl (by decide) _ _ _ rfl (hown.alloc _) ⟨w3.heap.size, 0, none⟩ 1 1 [.int .u8 x.kind] rfl rfl ?h3c1 ?h3c2 ?h3c3 ?h3c4 ?h3c5 ?_)
      case h3c1 => exact cell_one_new _ _ _
      case h3c2 => simp [Value.oneCell']
      case h3c3 => unfold maxLen; omega
      case h3c4 => omega
      case h3c5 => first | omega | (simp; omega)
      intro v4 w4 hown4 hgrow4 _
      have V4 := Lib.hid (OutB.push V3.out (Nat.le_refl _) _ _ hown4 hgrow4)
      have hlp4 : (P3 ++ [x.kind]).length ≤ 28016 := by simp; omega
      clear hown4 hgrow4 hown V3 c1
      generalize P3 ++ [x.kind] = P4 at *
      have hPP : P4.length ≤ 30000 := by omega
      clear hlp2 hlp3 hlp4 hP0 u1 u2 hbz hbz2 hbz3
      have HPUT : Hid (∀ (Q : List Int) (v : Value) (n : Int) (W : World), OutB w w.heap.size Q v W → Q.length ≤ 1000000 → -1000000000000000 ≤ n → n ≤ 1000000000000000 → Calls Try.prog 50 #[v, .int .i64 n] W fun e w' => ∃ v', e = .returned v' ∧ OutB w w.heap.size (Q ++ pkL (zigN n)) v' w') := fun Q v n W h1 h2 h3 h4 => l27Put_any w w.heap.size Q v n W h1 (Nat.le_refl _) h2 h3 h4
      have c1 := (HCR.out _ V4.out.2.1).c1
      have VD := Lib.hid (V4.out.next (ext_drew (Below.refl _ _)))
      rcases nk with nk | nk | nk
      · rw [nk] at c1
        rw [nuL_1 nk, pkA_cons, pkA_cons, pkA_nil, List.append_nil, ← List.append_assoc] at HST
        have hN := HNU.out.1
        rw [nuL_1 nk] at hN
        obtain ⟨a1, a2⟩ := hN x.num (by simp)
        obtain ⟨a3, a4⟩ := hN x.den (by simp)
        have l1 := pkL_zig a1 a2
        have H1 := Lib.hid (HPUT.out P4 v4 x.num _ VD.out (by omega) a1 a2)
        have H2 : Hid (∀ v W, OutB w w.heap.size (P4 ++ pkL (zigN x.num)) v W → Calls Try.prog 50 #[v, .int .i64 x.den] W fun e w' => ∃ v', e = .returned v' ∧ OutB w w.heap.size ((P4 ++ pkL (zigN x.num)) ++ pkL (zigN x.den)) v' w') := fun v W h => HPUT.out _ v x.den W h (by simp; omega) a3 a4
        have HS : Hid (∀ W, Below w.heap.size w W → W.cell? ⟨b, off + k * 8 + 2, none⟩ = some (.int .i64 x.num) ∧ W.cell? ⟨b, off + k * 8 + 2 + 1, none⟩ = some (.int .i64 x.den)) := fun W h => ⟨(HCR.out W h).c2, (HCR.out W h).c3⟩
        clear HNU hN HPUT l1
        generalize P4 ++ pkL (zigN x.num) = Q1 at *
        generalize Q1 ++ pkL (zigN x.den) = Q2 at *
        go_wp2_with fail
        go_region_held3 (fun w' => w'.cell? ⟨b, off + k * 8 + 2, none⟩ = some (.int .i64 x.num) ∧ w'.cell? ⟨b, off + k * 8 + 2 + 1, none⟩ = some (.int .i64 x.den))
          (first | exact HS.out _ VD.out.2.1 | exact HS.out _ hV5.2.1 | exact HS.out _ hV6.2.1)
          (first | (go_at_call 50; (with_reducible refine H1.out.mono ?_); rintro e w5 ⟨v5, rfl, hV5⟩) | (go_at_call 50; (with_reducible refine (H2.out _ _ hV5).mono ?_); rintro e w6 ⟨v6, rfl, hV6⟩))
        all_goals
          have HV6 := Lib.hid hV6
          clear hV6
          go_wp2
          go_roundw
          case rel => exact ⟨k + 1, by omega, by go_num, by rw [HST.out]; exact HV6.out⟩
          case measure => simp [intOf]; omega
      · rw [nk] at c1
        rw [nuL_2 nk, pkA_cons, ← List.append_assoc] at HST
        have hN := HNU.out.1
        rw [nuL_2 nk] at hN
        have HBN : Hid (∀ n ∈ x.terms, -1000000000000000 ≤ n ∧ n ≤ 1000000000000000) := fun n hn => hN n (by simp [hn])
        have l1 := pkL_zig (n := (x.terms.length : Int)) (by omega) (by omega)
        have H1 := Lib.hid (HPUT.out P4 v4 (x.terms.length : Int) _ V4.out (by omega) (by omega) (by omega))
        have hQ1 : (P4 ++ pkL (zigN (x.terms.length : Int))).length ≤ 30010 := by simp; omega
        have c4 := (HCR.out _ V4.out.2.1).c4
        clear HNU hN l1 VD
        generalize P4 ++ pkL (zigN (x.terms.length : Int)) = Q1 at *
        go_wp2_with fail
        refine H1.out.mono ?_
        rintro e w5 ⟨v5, rfl, hV5⟩
        have V5 := Lib.hid hV5
        clear hV5 c1 c4
        go_wp2_with fail
        go_loopw [3, 6] (fun v t wr => ∃ j : Nat, j ≤ x.terms.length ∧ t = .int .i64 j ∧ Hid (OutB w w.heap.size (Q1 ++ pkA (x.terms.take j)) v wr)) (fun _ t _ => x.terms.length - (intOf t).toNat)
        case atStart => exact ⟨0, by omega, rfl, by unfold Hid; simpa [pkA] using V5.out⟩
        case round =>
          obtain ⟨j, hj, rfl, HV6⟩ := hrel
          clear V5
          have c4 := (HCR.out _ HV6.out.2.1).c4
          by_cases hlj : j < x.terms.length
          · obtain ⟨bn, offn, rfl, hbn, hcn⟩ := (HTR.out _ HV6.out.2.1) (by omega)
            obtain ⟨n, hnj⟩ : ∃ n, x.terms[j]? = some n := ⟨_, List.getElem?_eq_getElem hlj⟩
            have cn := hcn j n hnj
            obtain ⟨m1, m2⟩ := HBN.out n (List.mem_of_getElem? hnj)
            have HTK : Hid (Q1 ++ pkA (x.terms.take (j + 1)) = (Q1 ++ pkA (x.terms.take j)) ++ pkL (zigN n)) := by
              unfold Hid
              rw [List.take_add_one, hnj]
              show Q1 ++ pkA (x.terms.take j ++ [n]) = _
              rw [pkA_snoc, List.append_assoc]
            have hpa := pkA_length (ns := x.terms.take j) (fun m hm => HBN.out m (List.mem_of_mem_take hm))
            have htl : (x.terms.take j).length ≤ 60 := by rw [List.length_take]; omega
            have hpl2 : (Q1 ++ pkA (x.terms.take j)).length ≤ 40000 := by rw [List.length_append]; omega
            have HPK := Lib.hid (HPUT.out (Q1 ++ pkA (x.terms.take j)) _ n wr HV6.out (by omega) m1 m2)
            have j0 : (0 : Int) ≤ (j : Int) := by omega
            have j1 : (j : Int) < (x.terms.length : Int) := by omega
            clear hcn hnj hpa htl
            generalize Q1 ++ pkA (x.terms.take j) = Q at *
            go_wp2_with fail
            refine HPK.out.mono ?_
            rintro e w7 ⟨v7, rfl, hV7⟩
            have HV7 := Lib.hid hV7
            clear hV7
            go_wp2
            go_roundw
            case rel => exact ⟨j + 1, by omega, by go_num, by rw [HTK.out]; exact HV7.out⟩
            case measure => simp [intOf]; omega
          · have hj' : j = x.terms.length := by omega
            have hE := HV6.out
            rw [hj', List.take_length] at hE
            have HE := Lib.hid hE
            have j1 : ¬ (j : Int) < (x.terms.length : Int) := by omega
            clear HV6 hj' hE
            go_wp2
            go_roundw
            case rel => exact ⟨k + 1, by omega, by go_num, by rw [HST.out]; exact HE.out⟩
            case measure => simp [intOf]; omega
      · rw [nk] at c1
        rw [nuL_3 nk, pkA_cons, pkA_cons, pkA_cons, pkA_nil, List.append_nil, ← List.append_assoc, ← List.append_assoc] at HST
        have hN := HNU.out.1
        rw [nuL_3 nk] at hN
        obtain ⟨a1, a2⟩ := hN x.sp (by simp)
        obtain ⟨a3, a4⟩ := hN x.sd (by simp)
        obtain ⟨a5, a6⟩ := hN x.sq (by simp)
        have l1 := pkL_zig a1 a2
        have l2 := pkL_zig a3 a4
        have H1 := Lib.hid (HPUT.out P4 v4 x.sp _ VD.out (by omega) a1 a2)
        have H2 : Hid (∀ v W, OutB w w.heap.size (P4 ++ pkL (zigN x.sp)) v W → Calls Try.prog 50 #[v, .int .i64 x.sd] W fun e w' => ∃ v', e = .returned v' ∧ OutB w w.heap.size ((P4 ++ pkL (zigN x.sp)) ++ pkL (zigN x.sd)) v' w') := fun v W h => HPUT.out _ v x.sd W h (by simp; omega) a3 a4
        have H3 : Hid (∀ v W, OutB w w.heap.size ((P4 ++ pkL (zigN x.sp)) ++ pkL (zigN x.sd)) v W → Calls Try.prog 50 #[v, .int .i64 x.sq] W fun e w' => ∃ v', e = .returned v' ∧ OutB w w.heap.size (((P4 ++ pkL (zigN x.sp)) ++ pkL (zigN x.sd)) ++ pkL (zigN x.sq)) v' w') := fun v W h => HPUT.out _ v x.sq W h (by simp; omega) a5 a6
        have HS : Hid (∀ W, Below w.heap.size w W → W.cell? ⟨b, off + k * 8 + 5, none⟩ = some (.int .i64 x.sp) ∧ W.cell? ⟨b, off + k * 8 + 5 + 1, none⟩ = some (.int .i64 x.sd) ∧ W.cell? ⟨b, off + k * 8 + 5 + 2, none⟩ = some (.int .i64 x.sq)) := fun W h => ⟨(HCR.out W h).c5, (HCR.out W h).c6, (HCR.out W h).c7⟩
        clear HNU hN HPUT l1 l2
        generalize P4 ++ pkL (zigN x.sp) = Q1 at *
        generalize Q1 ++ pkL (zigN x.sd) = Q2 at *
        generalize Q2 ++ pkL (zigN x.sq) = Q3 at *
        go_wp2_with fail
        go_region_held3 (fun w' => w'.cell? ⟨b, off + k * 8 + 5, none⟩ = some (.int .i64 x.sp) ∧ w'.cell? ⟨b, off + k * 8 + 5 + 1, none⟩ = some (.int .i64 x.sd) ∧ w'.cell? ⟨b, off + k * 8 + 5 + 2, none⟩ = some (.int .i64 x.sq))
          (first | exact HS.out _ VD.out.2.1 | exact HS.out _ hV5.2.1 | exact HS.out _ hV6.2.1 | exact HS.out _ hV7.2.1)
          (first | (go_at_call 50; (with_reducible refine H1.out.mono ?_); rintro e w5 ⟨v5, rfl, hV5⟩) | (go_at_call 50; (with_reducible refine (H2.out _ _ hV5).mono ?_); rintro e w6 ⟨v6, rfl, hV6⟩) | (go_at_call 50; (with_reducible refine (H3.out _ _ hV6).mono ?_); rintro e w7 ⟨v7, rfl, hV7⟩))
        all_goals
          have HV7 := Lib.hid hV7
          clear hV7
          go_wp2
          go_roundw
          case rel => exact ⟨k + 1, by omega, by go_num, by rw [HST.out]; exact HV7.out⟩
          case measure => simp [intOf]; omega
    · have hk' : k = xs.length := by omega
      obtain ⟨b1, b2, b3⟩ := book_bds HV.out
      have hv2 := HV1.out
      rw [hk', List.take_length] at hv2
      have HEN := Lib.hid (l27Ended_any w w.heap.size (bookB xs) _ wr (bookOut hv2) (Nat.le_refl _) (by omega) b3 b2)
      have i1 : ¬ (k : Int) < (xs.length : Int) := by omega
      clear hv2 HV1 b2 hk' HR
      go_wp2_with fail
      refine HEN.out.mono ?_
      rintro e w2 ⟨rfl, hb2⟩
      go_wp2
      go_ret
      exact ⟨rfl, hb2⟩
end Go.Proofs.Ytkimmahmbacjpaa

/- PackNotes: both sides. No condition but those that each theorem names. -/
namespace Go.Proofs.Ytkimmahmbacjpaa
open Go.RowKit Go.Sort Go.Maps Go.WideMaps

def pnS (xs : List Nt) : ByteArray := if validNt xs = true then endB (bookB xs) else ByteArray.empty
def pnC (xs : List Nt) : Int := if validNt xs = true then 0 else 1
theorem iPackNotes_any (A : Option Addr) (c : Nat) (xs : List Nt) (w : World) (hr : RdNt w w.heap.size A xs) (hf : ∀ x ∈ xs, x.fits) (hl : xs.length ≤ maxLen) :
    Calls Try.prog 26 #[.slice A xs.length c] w fun e w' => e = .returned (.tuple #[.string (pnS xs), .int .i64 (pnC xs)]) ∧ Below w.heap.size w w' := by
  cases hv : validNt xs
  · have h := iPackNotes_bad A c xs w hr hf hl hv
    unfold pnS pnC
    rw [hv]
    exact h
  · obtain ⟨h40, _⟩ := valid_all hv
    have h := iPackNotes_good A c xs w hr hf h40 hv
    unfold pnS pnC
    rw [hv]
    exact h
end Go.Proofs.Ytkimmahmbacjpaa
