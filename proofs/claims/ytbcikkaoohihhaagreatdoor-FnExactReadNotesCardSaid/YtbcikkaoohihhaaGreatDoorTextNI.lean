/- The text of a notebook: the program's walk. No condition but those that each theorem names. -/
import Derived.Test.YtbcikkaoohihhaaGreatDoorTextNP
namespace Go.Proofs.YtbcikkaoohihhaaGreatDoor
open Go.RowKit Go.Sort

set_option maxRecDepth 100000 in
set_option maxHeartbeats 4000000 in
theorem iNotesText_any (A : Option Addr) (c : Nat) (xs : List Nt) (w : World) (hr : RdNt w w.heap.size A xs) (hf : ∀ x ∈ xs, x.fits) (hl : xs.length ≤ maxLen) (hT : Tab10 w) :
    Calls Tryz.prog 20 #[.slice A xs.length c] w fun e w' => e = .returned (.string (ntsB xs)) ∧ Below w.heap.size w w' := by
  have HC := Lib.hid (iValidNotes_any A c xs w hr hf hl)
  cases hv : validNt xs
  · have HE : Hid (ntsB xs = ⟨#[]⟩) := by unfold Hid ntsB; rw [hv]; rfl
    rw [hv] at HC
    clear hv hr hf hT hl
    generalize ntsB xs = R at *
    go_enter Tryz.func20, Tryz.ntmps20
    go_wp2_with fail
    refine HC.out.mono ?_
    rintro e w1 ⟨rfl, hb1⟩
    go_wp2
    go_ret
    rw [HE.out]
    exact ⟨rfl, hb1⟩
  · have HE : Hid (ntsB xs = ntsO xs xs.length) := by unfold Hid ntsB; rw [hv]; rfl
    rw [hv] at HC
    obtain ⟨hl4, hok⟩ := valid_all hv
    have HOK := Lib.hid hok
    have HT : Hid (∀ W, Below w.heap.size w W → Tab10 W) := fun W hb => hT.next hb
    have HR : Hid (∀ W, Below w.heap.size w W → RdNt W w.heap.size A xs) := fun W hb => hr.below hb
    have HSZ : Hid (∀ k, (ntsO xs k).size ≤ 1500 * k) := ntsO_size hok
    clear hv hr hf hT hok
    generalize ntsB xs = R at *
    go_enter Tryz.func20, Tryz.ntmps20
    go_wp2_with fail
    refine HC.out.mono ?_
    rintro e w1 ⟨rfl, hb1⟩
    have HB1 := Lib.hid hb1
    clear hb1 HC
    go_wp2_with fail
    go_loopw [12, 3, 5, 6] (fun t s u v wr => ∃ k : Nat, k ≤ xs.length ∧ t = .int .i64 k ∧ s = .string (ntsO xs k) ∧ Hid (Below w.heap.size w wr)) (fun t _ _ _ _ => xs.length - (intOf t).toNat)
    case atStart => exact ⟨0, by omega, rfl, rfl, HB1.out⟩
    case round =>
      obtain ⟨k, hk, rfl, rfl, HV⟩ := hrel
      clear HB1
      by_cases hlt : k < xs.length
      · obtain ⟨b, off, rfl, hb, hc⟩ := HR.out wr HV.out (by omega)
        obtain ⟨x, hxk⟩ : ∃ x, xs[k]? = some x := ⟨_, List.getElem?_eq_getElem hlt⟩
        obtain ⟨T, ct, cr0, cT⟩ := hc k x hxk
        obtain ⟨c0, c1, c2, c3, c4, c5, c6, c7⟩ := cr0.nt
        have hox := HOK.out x (List.mem_of_getElem? hxk)
        have n12 := (ntOk_bds hox).1
        have hkn := ntKnd hox
        have HN := Lib.hid (ntsO_next hxk)
        have zb := ntBody_size hox
        have zs : (ntsO xs k).size ≤ 60000 := by have := HSZ.out k; omega
        have j0 : (0 : Int) ≤ (k : Int) := by omega
        have j1 : (k : Int) < (xs.length : Int) := by omega
        obtain ⟨t0, t1, t2, t3⟩ := ztL (ntsO xs k) x.name (ntBody x) (by omega) n12 zb
        have HFT : Hid (∀ W, Below w.heap.size w W → Calls Tryz.prog 58 #[.agg #[.int .i64 x.num, .int .i64 x.den]] W fun e w' => e = .returned (.string (if fracOk x.num x.den = true then frT x.num x.den else ⟨#[]⟩)) ∧ Below W.heap.size W w') := fun W hbW => iFractionText_any _ _ W (HT.out W hbW)
        have HCT := Lib.hid cT
        have B1 := Lib.hid (BoxV.new wr #[.string x.name, .int .i64 x.kind, .int .i64 x.num, .int .i64 x.den, .slice T x.terms.length ct, .int .i64 x.sp, .int .i64 x.sd, .int .i64 x.sq] 36)
        have E1 := Lib.hid (ext_trans HV.out (ext1 wr (.cells #[.string x.name, .int .i64 x.kind, .int .i64 x.num, .int .i64 x.den, .slice T x.terms.length ct, .int .i64 x.sp, .int .i64 x.sd, .int .i64 x.sq] 36)))
        have HCB : Hid (∀ W, Below wr.heap.size wr W → RdC W W.heap.size T ct x.terms) := fun W hbW => ⟨(HCT.out.1.below (hbW.mono HV.out.size)).more (Nat.le_trans HV.out.size hbW.size), HCT.out.2⟩
        have E0 := Lib.hid (ext1 wr (.cells #[.string x.name, .int .i64 x.kind, .int .i64 x.num, .int .i64 x.den, .slice T x.terms.length ct, .int .i64 x.sp, .int .i64 x.sd, .int .i64 x.sq] 36))
        have HBY : Hid (ntBody x = if x.kind = 1 then frT x.num x.den else if x.kind = 2 then tmT x.terms else sdT x.sp x.sd x.sq) := rfl
        clear cr0 cT hc hxk hox hb HCT
        generalize ntsO xs k = S0 at *
        generalize ntBody x = Y at *
        have y2 := B1.out.at 2 _ rfl
        have y3 := B1.out.at 3 _ rfl
        go_wp2_with fail
        generalize wr.alloc (.cells #[.string x.name, .int .i64 x.kind, .int .i64 x.num, .int .i64 x.den, .slice T x.terms.length ct, .int .i64 x.sp, .int .i64 x.sd, .int .i64 x.sq] 36) = W0 at *
        refine (HFT.out _ E1.out).mono ?_
        rintro e w2 ⟨rfl, hb2⟩
        have E2 := Lib.hid (ext_trans E1.out hb2)
        have E20 := Lib.hid (ext_trans E0.out hb2)
        have B2 := Lib.hid (B1.out.next hb2)
        have x0 := B2.out.at 0 _ rfl
        have x1 := B2.out.at 1 _ rfl
        have x4 := B2.out.at 4 _ rfl
        have x5 := B2.out.at 5 _ rfl
        have x6 := B2.out.at 6 _ rfl
        have x7 := B2.out.at 7 _ rfl
        clear hb2 B1 E1 E0 y2 y3 c0 c1 c2 c3 c4 c5 c6 c7 HFT
        rcases hkn with ⟨nk, h1⟩ | ⟨nk, h1⟩ | ⟨nk, h1⟩
        · rw [nk] at x1 B2 HBY
          rw [if_pos rfl] at HBY
          rw [h1, if_pos rfl, ← HBY.out]
          clear nk h1
          go_wp2
          go_roundw
          case rel => exact ⟨k + 1, by omega, by go_num, by rw [HN.out], E2.out⟩
          case measure => simp [intOf]; omega
        · rw [nk] at x1 B2 HBY
          rw [if_neg (by omega), if_pos rfl] at HBY
          obtain ⟨l1, l2, l3⟩ := termsBBd h1
          have HTT := Lib.hid (iTermsText_any T ct x.terms w2 (HCB.out w2 E20.out) l1 l2 l3 h1 (HT.out w2 E2.out))
          rw [← HBY.out] at HTT
          clear nk h1
          generalize (if fracOk x.num x.den = true then frT x.num x.den else (⟨#[]⟩ : ByteArray)) = F0 at *
          go_wp2_with fail
          refine HTT.out.mono ?_
          rintro e w3 ⟨rfl, hb3⟩
          have E3 := Lib.hid (ext_trans E2.out hb3)
          have B3 := Lib.hid (B2.out.next hb3)
          have y0 := B3.out.at 0 _ rfl
          have y1 := B3.out.at 1 _ rfl
          clear hb3
          go_wp2
          go_roundw
          case rel => exact ⟨k + 1, by omega, by go_num, by rw [HN.out], E3.out⟩
          case measure => simp [intOf]; omega
        · rw [nk] at x1 B2 HBY
          rw [if_neg (by omega), if_neg (by omega)] at HBY
          have HTT := Lib.hid (iSurdText_any x.sp x.sd x.sq w2 (HT.out w2 E2.out) h1)
          rw [← HBY.out] at HTT
          clear nk h1
          generalize (if fracOk x.num x.den = true then frT x.num x.den else (⟨#[]⟩ : ByteArray)) = F0 at *
          go_wp2_with fail
          refine HTT.out.mono ?_
          rintro e w3 ⟨rfl, hb3⟩
          have E3 := Lib.hid (ext_trans E2.out hb3)
          have B3 := Lib.hid (B2.out.next hb3)
          have y0 := B3.out.at 0 _ rfl
          have y1 := B3.out.at 1 _ rfl
          clear hb3
          go_wp2
          go_roundw
          case rel => exact ⟨k + 1, by omega, by go_num, by rw [HN.out], E3.out⟩
          case measure => simp [intOf]; omega
      · have hil : k = xs.length := by omega
        subst hil
        have HBE := Lib.hid HV.out
        generalize ntsO xs xs.length = S0 at *
        go_wp2
        go_ret
        rw [HE.out]
        exact ⟨rfl, HBE.out⟩
end Go.Proofs.YtbcikkaoohihhaaGreatDoor
