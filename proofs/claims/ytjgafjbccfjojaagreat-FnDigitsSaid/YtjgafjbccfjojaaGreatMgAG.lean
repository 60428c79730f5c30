/- Digits of a source: the program's run. No condition but those that each theorem names. -/
import Derived.Test.YtjgafjbccfjojaaGreatMgAD
import Derived.Test.YtjgafjbccfjojaaGreatMgAE
import Derived.Test.YtjgafjbccfjojaaGreatMgAF
import Derived.StillTailTactics
import Derived.Deep.DeepCutAuto
namespace Go.Proofs.YtjgafjbccfjojaaGreat
open Go.RowKit Go.Sort
theorem mul_any (g : Nat) (a b c d : Int) (x y : Int) (x1 : -1000000000000000000 ≤ x) (x2 : x ≤ 1000000000000000000) (y1 : -1000000000000000000 ≤ y) (y2 : y ≤ 1000000000000000000) (f : Bool) (w : World) (hb : BoxV g [.int .i64 a, .int .i64 b, .int .i64 c, .int .i64 d, .bool f] w) :
    Calls Tryz.prog 57 #[.pointer (some ⟨g, 0, none⟩), .int .i64 x, .int .i64 y] w fun e w' => e = .returned (.int .i64 (mulV x y)) ∧ BoxV g [.int .i64 a, .int .i64 b, .int .i64 c, .int .i64 d, .bool (f || !fitI x y)] w' ∧ w.grownBy w' (some g) := by
  cases h : fitI x y
  · refine (mul_not g a b c d f x y w x1 x2 y1 y2 h hb).mono ?_
    rintro e w' ⟨rfl, rfl⟩
    exact ⟨by rw [mulV_no h], by simpa using hb.set 4 (.bool true) (by simp), Go.Lib.grownBy_setB (World.grownBy.refl w _) 4 _⟩
  · refine (mul_fit _ x y w x1 x2 y1 y2 h).mono ?_
    rintro e w' ⟨rfl, rfl⟩
    exact ⟨by rw [mulV_yes h], by simpa using hb, World.grownBy.refl w _⟩
theorem RetDg.fin_ {w : World} {X : List Value} {s : S4} {f : Bool} {out : List Int} {v : Value} {wr : World} {k : Nat} (h : DgI w X s f out v wr) : RetDg w (out, k, 0) (.returned (.tuple #[v, .int .i64 (k : Int), .int .i64 0])) wr := by
  obtain ⟨A, c, e, hw, h1, h2⟩ := own_fullD h.own
  rw [e]
  exact ⟨A, c, rfl, hw.more (by omega), ⟨h1, h2⟩, h.below⟩
set_option maxRecDepth 100000 in
set_option maxHeartbeats 8000000 in
set_option linter.unusedSimpArgs false in
theorem digitsOf_any (so : So) (H P G : Option Addr) (ch cp cg : Nat) (base : Int) (count : Nat) (R : List Int × Nat × Int) (w : World) (hr : RdSo w w.heap.size H P G so) (hs : soB so = true) (b1 : 2 ≤ base) (b2 : base ≤ 36) (hc : count ≤ 30) (hR : DgR (tmS so) base count ⟨1, 0, 0, 1⟩ 0 [] R) :
    Calls Tryz.prog 25 #[souV H so.hd.length ch P so.pd.length cp G so.gr.length cg, .int .i64 base, .int .i64 (count : Int)] w (RetDg w R) := by
  obtain ⟨i0, hi, hz0, hz1, hz2⟩ := info_parts info64
  have HI := Lib.hid hi
  clear hi
  have HR := Lib.hid hR
  have HSo : Hid (∀ W : World, Below w.heap.size w W → RdSo W W.heap.size H P G so) := fun W hb => hr.next hb
  have HTM : Hid (∀ (k : Nat) (W : World), Below w.heap.size w W → k ≤ 1000 → Calls Tryz.prog 58 #[souV H so.hd.length ch P so.pd.length cp G so.gr.length cg, .int .i64 (k : Int)] W fun e w' => e = .returned (.tuple #[.int .i64 ((tmS so k).getD 0), .bool (tmS so k).isSome]) ∧ Below W.heap.size W w') := fun k W hb hk => termAt_any so H P G ch cp cg k W (hr.next hb) (soB_tm hs) (by omega)
  have HTB : Hid (∀ (k : Nat) (t : Int), k ≤ 1000 → tmS so k = some t → -1000000000 ≤ t ∧ t ≤ 1000001000000 ∧ (0 < k → 1 ≤ t)) := fun k t hk h => tmS_bd hs (by omega) h
  have HT0 := Lib.hid (tmS_zero hs)
  clear hr hs hR
  generalize hT : tmS so = T at *
  clear hT
  generalize so.hd.length = nh at *
  generalize so.pd.length = np at *
  generalize so.gr.length = ng at *
  unfold souV at *
  go_enter Tryz.func25, Tryz.ntmps25
  go_wp2_with fail
  go_loopw [10, 11] (fun v t wr => ∃ (s : S4) (k : Nat) (out : List Int), t = .int .i64 (k : Int) ∧ out.length ≤ count ∧ Hid (SInv s k ∧ DgR T base count s k out R) ∧ Hid (DgI w [.slice H nh ch, .slice P np cp, .slice G ng cg] s false out v wr)) (fun v t wr => muW count (w.heap.size + 1) v t wr)
  case atStart =>
    refine ⟨⟨1, 0, 0, 1⟩, 0, [], rfl, by simp, ⟨⟨rfl, .inl ⟨rfl, rfl⟩, by omega⟩, HR.out⟩, ?_⟩
    refine ⟨(BoxV.new w #[.slice H nh ch, .slice P np cp, .slice G ng cg] _).alloc _, ?_, own_nil, ext_alloc (ext1 _ _) _, by simp⟩
    have h := BoxV.new (w.alloc (.cells #[.slice H nh ch, .slice P np cp, .slice G ng cg] 26)) #[.int .i64 1, .int .i64 0, .int .i64 0, .int .i64 1, .bool false] 82
    simpa using h
  case round =>
    obtain ⟨s, k, out, rfl, ho, HS, HD⟩ := hrel
    obtain ⟨A, ca, rfl⟩ := own_slice HD.out.own
    have hkle := HS.out.1.kle
    obtain ⟨⟨a1, a2⟩, ⟨s1, s2⟩, ⟨c1, c2⟩, ⟨d1, d2⟩⟩ := S4.low_true.1 HS.out.1.low
    obtain ⟨c0, d0⟩ : 0 ≤ s.c ∧ 0 ≤ s.d := by
      rcases HS.out.1.pos with ⟨_, rfl⟩ | ⟨_, h1, h2⟩
      · exact ⟨by decide, by decide⟩
      · omega
    have HK := Lib.hid (fun W : World => knownOf_any s W HS.out.1.low c0 d0)
    have x0 := HD.out.bs.at 0 _ rfl
    have x1 := HD.out.bs.at 1 _ rfl
    have x2 := HD.out.bs.at 2 _ rfl
    have x3 := HD.out.bs.at 3 _ rfl
    have x4 := HD.out.bs.at 4 _ rfl
    have y0 := HD.out.bx.at 0 _ rfl
    have y1 := HD.out.bx.at 1 _ rfl
    have y2 := HD.out.bx.at 2 _ rfl
    clear HR
    cases hkn : (decide (0 < k) && s.kn)
    · have HKN := Lib.hid hkn
      have hways : ((decide ((0 : Int) < (k : Int)) = false ∧ decide (0 < k) = false) ∨ ((decide ((0 : Int) < (k : Int)) = true ∧ decide (0 < k) = true) ∧ s.kn = false)) := by
        rcases Nat.eq_zero_or_pos k with e | e
        · left; exact ⟨by simp; omega, by simp; omega⟩
        · right
          refine ⟨⟨by simp; omega, by simp; omega⟩, ?_⟩
          simpa [e] using hkn
      clear hkn
      cases hTk : T k with
      | none =>
        have HTN := Lib.hid hTk
        have HK0 : Hid (0 < k) := by
          rcases Nat.eq_zero_or_pos k with e | e
          · subst e; exact absurd hTk HT0.out
          · exact e
        have HTK : Hid (∀ W : World, Below w.heap.size w W → Calls Tryz.prog 58 #[.agg #[.slice H nh ch, .slice P np cp, .slice G ng cg], .int .i64 (k : Int)] W fun e w' => e = .returned (.tuple #[.int .i64 0, .bool false]) ∧ Below W.heap.size W w') := fun W hb => by
          have h := HTM.out k W hb hkle
          rwa [hTk] at h
        clear hTk
        have HLF : Hid (∀ W : World, DgI w [.slice H nh ch, .slice P np cp, .slice G ng cg] s.enS.nrm (false || !s.enS.nrm.low) out (.slice A out.length ca) W → DgI w [.slice H nh ch, .slice P np cp, .slice G ng cg] s.enS.nrm false out (.slice A out.length ca) W) := fun W h => by
          rw [S4.nrm_low (s := s.enS) (S4.en_low HS.out.1.low)] at h
          exact h
        have HSET : Hid (∀ V : World, BoxV (w.heap.size + 1) (dsC s false) V → Calls Tryz.prog 56 #[.pointer (some ⟨w.heap.size + 1, 0, none⟩), .int .i64 s.a, .int .i64 s.a, .int .i64 s.c, .int .i64 s.c] V fun e w' => e = .returned (.tuple #[]) ∧ BoxV (w.heap.size + 1) (dsC s.enS.nrm (false || !s.enS.nrm.low)) w' ∧ V.grownBy w' (some (w.heap.size + 1))) := fun V h => dset_any (w.heap.size + 1) s.enS s false V h ⟨by show _ ≤ s.a; omega, by show s.a ≤ _; omega⟩ ⟨by show _ ≤ s.a; omega, by show s.a ≤ _; omega⟩ ⟨by show _ ≤ s.c; omega, by show s.c ≤ _; omega⟩ ⟨by show _ ≤ s.c; omega, by show s.c ≤ _; omega⟩
        rcases hways with ⟨h1, h1n⟩ | ⟨⟨h1, h1n⟩, h2⟩
        · skip
          go_wp2_with fail
          refine (HK.out _).mono ?_
          rintro e w' ⟨rfl, rfl⟩
          go_wp2_with (first | (go_at_call 58; (with_reducible refine (HTK.out _ HD.out.below).mono ?_); rintro e w2 ⟨rfl, hb2⟩; have HE := Lib.hid (HD.out.next hb2); have z0 := HE.out.bs.at 0 _ rfl; have z1 := HE.out.bs.at 1 _ rfl; have z2 := HE.out.bs.at 2 _ rfl; have z3 := HE.out.bs.at 3 _ rfl; have z4 := HE.out.bs.at 4 _ rfl; clear hb2 x0 x1 x2 x3 x4 y0 y1 y2) | (go_at_call 56; (with_reducible refine (HSET.out _ HE.out.bs).mono ?_); rintro e w3 ⟨rfl, hb3, hg3⟩; have HF := Lib.hid (HLF.out _ (HE.out.grow hg3 hb3)); have u4 := HF.out.bs.at 4 _ rfl; clear hb3 hg3 z0 z1 z2 z3 z4))
          go_roundw
          case rel => exact ⟨s.enS.nrm, k, out, rfl, ho, ⟨(HS.out.1.en HK0.out).1, HS.out.2.en HKN.out HTN.out⟩, HF.out⟩
          case measure =>
            rw [muW_eq HF.out.bs, muW_eq HD.out.bs]
            exact mu_en HS.out.1 HK0.out HKN.out
        · rw [h2] at HK
          clear h2
          go_wp2_with fail
          refine (HK.out _).mono ?_
          rintro e w' ⟨rfl, rfl⟩
          go_wp2_with (first | (go_at_call 58; (with_reducible refine (HTK.out _ HD.out.below).mono ?_); rintro e w2 ⟨rfl, hb2⟩; have HE := Lib.hid (HD.out.next hb2); have z0 := HE.out.bs.at 0 _ rfl; have z1 := HE.out.bs.at 1 _ rfl; have z2 := HE.out.bs.at 2 _ rfl; have z3 := HE.out.bs.at 3 _ rfl; have z4 := HE.out.bs.at 4 _ rfl; clear hb2 x0 x1 x2 x3 x4 y0 y1 y2) | (go_at_call 56; (with_reducible refine (HSET.out _ HE.out.bs).mono ?_); rintro e w3 ⟨rfl, hb3, hg3⟩; have HF := Lib.hid (HLF.out _ (HE.out.grow hg3 hb3)); have u4 := HF.out.bs.at 4 _ rfl; clear hb3 hg3 z0 z1 z2 z3 z4))
          go_roundw
          case rel => exact ⟨s.enS.nrm, k, out, rfl, ho, ⟨(HS.out.1.en HK0.out).1, HS.out.2.en HKN.out HTN.out⟩, HF.out⟩
          case measure =>
            rw [muW_eq HF.out.bs, muW_eq HD.out.bs]
            exact mu_en HS.out.1 HK0.out HKN.out
      | some t =>
        obtain ⟨t1, t2, _⟩ := HTB.out k t hkle hTk
        have HTK : Hid (∀ W : World, Below w.heap.size w W → Calls Tryz.prog 58 #[.agg #[.slice H nh ch, .slice P np cp, .slice G ng cg], .int .i64 (k : Int)] W fun e w' => e = .returned (.tuple #[.int .i64 t, .bool true]) ∧ Below W.heap.size W w') := fun W hb => by
          have h := HTM.out k W hb hkle
          rwa [hTk] at h
        have HTS := Lib.hid hTk
        clear hTk
        by_cases hk : 1000 ≤ k
        · have e1 : ((k : Int) == 1000) = true := by simp; omega
          have HRR := Lib.hid (HS.out.2.op HKN.out HTS.out hk)
          clear hk
          rcases hways with ⟨h1, h1n⟩ | ⟨⟨h1, h1n⟩, h2⟩
          · skip
            go_wp2_with fail
            refine (HK.out _).mono ?_
            rintro e w' ⟨rfl, rfl⟩
            go_wp2_with (go_at_call 58; (with_reducible refine (HTK.out _ HD.out.below).mono ?_); rintro e w2 ⟨rfl, hb2⟩; have HE := Lib.hid (HD.out.next hb2); have z0 := HE.out.bs.at 0 _ rfl; have z1 := HE.out.bs.at 1 _ rfl; have z2 := HE.out.bs.at 2 _ rfl; have z3 := HE.out.bs.at 3 _ rfl; have z4 := HE.out.bs.at 4 _ rfl; clear hb2 x0 x1 x2 x3 x4 y0 y1 y2)
            refine bodyPost_ret (v := .tuple #[.slice none 0 0, .int .i64 0, .int .i64 10]) (by simp [results, Tryz.results25, go_sem]; done) rfl ?_
            rw [HRR.out]
            exact RetDg.nil_ HE.out.below
          · rw [h2] at HK
            clear h2
            go_wp2_with fail
            refine (HK.out _).mono ?_
            rintro e w' ⟨rfl, rfl⟩
            go_wp2_with (go_at_call 58; (with_reducible refine (HTK.out _ HD.out.below).mono ?_); rintro e w2 ⟨rfl, hb2⟩; have HE := Lib.hid (HD.out.next hb2); have z0 := HE.out.bs.at 0 _ rfl; have z1 := HE.out.bs.at 1 _ rfl; have z2 := HE.out.bs.at 2 _ rfl; have z3 := HE.out.bs.at 3 _ rfl; have z4 := HE.out.bs.at 4 _ rfl; clear hb2 x0 x1 x2 x3 x4 y0 y1 y2)
            refine bodyPost_ret (v := .tuple #[.slice none 0 0, .int .i64 0, .int .i64 10]) (by simp [results, Tryz.results25, go_sem]; done) rfl ?_
            rw [HRR.out]
            exact RetDg.nil_ HE.out.below
        · have e1 : ((k : Int) == 1000) = false := by simp; omega
          obtain ⟨fl, hfl⟩ : ∃ b, (s.fd t).isNone = b := ⟨_, rfl⟩
          have HFL := Lib.hid hfl
          have HCT : Hid (∀ (f : Bool) (W : World), f = (s.fdB t || !(s.fdI t).nrm.low) → DgI w [.slice H nh ch, .slice P np cp, .slice G ng cg] (s.fdI t).nrm f out (.slice A out.length ca) W → DgI w [.slice H nh ch, .slice P np cp, .slice G ng cg] (s.fdI t).nrm fl out (.slice A out.length ca) W) := fun f W h k => by
            rw [h, (fd_flag s t).1, hfl] at k
            exact k
          have b3 := mulV_bd s.a t
          have b4 := mulV_bd s.c t
          have H3 := Lib.hid (mul_any (w.heap.size + 1) s.a s.b s.c s.d s.a t (by omega) (by omega) (by omega) (by omega))
          have H12 := Lib.hid (mul_any (w.heap.size + 1) s.a s.b s.c s.d s.c t (by omega) (by omega) (by omega) (by omega))
          have HSET : Hid (∀ (f : Bool) (V : World), BoxV (w.heap.size + 1) (dsC s f) V → Calls Tryz.prog 56 #[.pointer (some ⟨w.heap.size + 1, 0, none⟩), .int .i64 (mulV s.a t + s.b), .int .i64 s.a, .int .i64 (mulV s.c t + s.d), .int .i64 s.c] V fun e w' => e = .returned (.tuple #[]) ∧ BoxV (w.heap.size + 1) (dsC (s.fdI t).nrm (f || !(s.fdI t).nrm.low)) w' ∧ V.grownBy w' (some (w.heap.size + 1))) := fun f V h => dset_any (w.heap.size + 1) (s.fdI t) s f V h ⟨by show _ ≤ mulV s.a t + s.b; omega, by show mulV s.a t + s.b ≤ _; omega⟩ ⟨by show _ ≤ s.a; omega, by show s.a ≤ _; omega⟩ ⟨by show _ ≤ mulV s.c t + s.d; omega, by show mulV s.c t + s.d ≤ _; omega⟩ ⟨by show _ ≤ s.c; omega, by show s.c ≤ _; omega⟩
          have v1 : IntKind.i64.wrap (mulV s.a t + s.b) = mulV s.a t + s.b := IntWalk.i64_in _ (by omega)
          have v2 : IntKind.i64.wrap (mulV s.c t + s.d) = mulV s.c t + s.d := IntWalk.i64_in _ (by omega)
          have HNK := Lib.hid hk
          clear hfl hk
          rcases hways with ⟨h1, h1n⟩ | ⟨⟨h1, h1n⟩, h2⟩
          · skip
            go_upto_region 15 with (first | (go_at_call 54; (with_reducible refine (HK.out _).mono ?_); rintro e w' ⟨rfl, rfl⟩) | (go_at_call 58; (with_reducible refine (HTK.out _ HD.out.below).mono ?_); rintro e w2 ⟨rfl, hb2⟩; have HE := Lib.hid (HD.out.next hb2); have z0 := HE.out.bs.at 0 _ rfl; have z1 := HE.out.bs.at 1 _ rfl; have z2 := HE.out.bs.at 2 _ rfl; have z3 := HE.out.bs.at 3 _ rfl; have z4 := HE.out.bs.at 4 _ rfl; clear hb2 x0 x1 x2 x3 x4 y0 y1 y2))
            have HD0 := Lib.hid HE.out.drew
            go_cut [104] (fun _ wx => DgI w [.slice H nh ch, .slice P np cp, .slice G ng cg] (s.fdI t).nrm fl out (.slice A out.length ca) wx)
            case first =>
              have hHeld : (fun W : World => W.cell? ⟨w.heap.size + 1, 0, none⟩ = some (.int .i64 s.a) ∧ W.cell? ⟨w.heap.size + 1, 1, none⟩ = some (.int .i64 s.b) ∧ W.cell? ⟨w.heap.size + 1, 2, none⟩ = some (.int .i64 s.c) ∧ W.cell? ⟨w.heap.size + 1, 3, none⟩ = some (.int .i64 s.d)) w2.drew := ⟨HD0.out.bs.at 0 _ rfl, HD0.out.bs.at 1 _ rfl, HD0.out.bs.at 2 _ rfl, HD0.out.bs.at 3 _ rfl⟩
              have HBX := Lib.hid HD0.out.bs
              have HG := Lib.hid (World.grownBy.refl w2.drew (some (w.heap.size + 1)))
              clear z0 z1 z2 z3 z4 HE
              refine wp_region_sink 18 (by kernel_rfl) (by kernel_rfl) ?_
              refine wpAny_of_held (S := fun W : World => W.cell? ⟨w.heap.size + 1, 0, none⟩ = some (.int .i64 s.a) ∧ W.cell? ⟨w.heap.size + 1, 1, none⟩ = some (.int .i64 s.b) ∧ W.cell? ⟨w.heap.size + 1, 2, none⟩ = some (.int .i64 s.c) ∧ W.cell? ⟨w.heap.size + 1, 3, none⟩ = some (.int .i64 s.d)) _ _ _ _ ?_
              change wpAnyH _ _ _ _ _ 18 (Array.replicate 18 false) _ _
              (try simp only [List.take_succ_cons, List.take_zero, List.drop_succ_cons, List.drop_zero])
              refine wpAnyH_take (i := 0) (oi := _) (v := ?_) rfl (by kernel_rfl) (by kernel_rfl) (by kernel_rfl) (fun _ _ _ h => h) (Or.inl ⟨by rfl, ?_⟩) hHeld ?_
              rotate_left 1
              · intro w hSw
                (try dsimp only at hSw)
                skip
                go_simp <;> with_reducible rfl
              (try simp only [Act.put, List.setIfInBounds_toArray, List.set_cons_zero, List.set_cons_succ])
              refine wpAnyH_take (i := 1) (oi := _) (v := ?_) rfl (by kernel_rfl) (by kernel_rfl) (by kernel_rfl) (fun _ _ _ h => h) (Or.inl ⟨by rfl, ?_⟩) hHeld ?_
              rotate_left 1
              · intro w hSw
                (try dsimp only at hSw)
                skip
                go_simp <;> with_reducible rfl
              (try simp only [Act.put, List.setIfInBounds_toArray, List.set_cons_zero, List.set_cons_succ])
              refine wpAnyH_take (i := 2) (oi := _) (v := ?_) rfl (by kernel_rfl) (by kernel_rfl) (by kernel_rfl) (fun _ _ _ h => h) (Or.inl ⟨by rfl, ?_⟩) hHeld ?_
              rotate_left 1
              · intro w hSw
                (try dsimp only at hSw)
                skip
                go_simp <;> with_reducible rfl
              (try simp only [Act.put, List.setIfInBounds_toArray, List.set_cons_zero, List.set_cons_succ])
              refine wpAnyH_take (i := 4) (oi := _) (v := ?_) rfl (by kernel_rfl) (by kernel_rfl) (by kernel_rfl) (fun _ _ _ h => h) (Or.inl ⟨by rfl, ?_⟩) hHeld ?_
              rotate_left 1
              · intro w hSw
                (try dsimp only at hSw)
                skip
                go_simp <;> with_reducible rfl
              (try simp only [Act.put, List.setIfInBounds_toArray, List.set_cons_zero, List.set_cons_succ])
              refine wpAnyH_take (i := 5) (oi := _) (v := ?_) rfl (by kernel_rfl) (by kernel_rfl) (by kernel_rfl) (fun _ _ _ h => h) (Or.inl ⟨by rfl, ?_⟩) hHeld ?_
              rotate_left 1
              · intro w hSw
                (try dsimp only at hSw)
                skip
                go_simp <;> with_reducible rfl
              (try simp only [Act.put, List.setIfInBounds_toArray, List.set_cons_zero, List.set_cons_succ])
              refine wpAnyH_take (i := 7) (oi := _) (v := ?_) rfl (by kernel_rfl) (by kernel_rfl) (by kernel_rfl) (fun _ _ _ h => h) (Or.inl ⟨by rfl, ?_⟩) hHeld ?_
              rotate_left 1
              · intro w hSw
                (try dsimp only at hSw)
                skip
                go_simp <;> with_reducible rfl
              (try simp only [Act.put, List.setIfInBounds_toArray, List.set_cons_zero, List.set_cons_succ])
              refine wpAnyH_take (i := 8) (oi := _) (v := ?_) rfl (by kernel_rfl) (by kernel_rfl) (by kernel_rfl) (fun _ _ _ h => h) (Or.inl ⟨by rfl, ?_⟩) hHeld ?_
              rotate_left 1
              · intro w hSw
                (try dsimp only at hSw)
                skip
                go_simp <;> with_reducible rfl
              (try simp only [Act.put, List.setIfInBounds_toArray, List.set_cons_zero, List.set_cons_succ])
              refine wpAnyH_take (i := 9) (oi := _) (v := ?_) rfl (by kernel_rfl) (by kernel_rfl) (by kernel_rfl) (fun _ _ _ h => h) (Or.inl ⟨by rfl, ?_⟩) hHeld ?_
              rotate_left 1
              · intro w hSw
                (try dsimp only at hSw)
                skip
                go_simp <;> with_reducible rfl
              (try simp only [Act.put, List.setIfInBounds_toArray, List.set_cons_zero, List.set_cons_succ])
              refine wpAnyH_take (i := 10) (oi := _) (v := ?_) rfl (by kernel_rfl) (by kernel_rfl) (by kernel_rfl) (fun _ _ _ h => h) (Or.inl ⟨by rfl, ?_⟩) hHeld ?_
              rotate_left 1
              · intro w hSw
                (try dsimp only at hSw)
                skip
                go_simp <;> with_reducible rfl
              (try simp only [Act.put, List.setIfInBounds_toArray, List.set_cons_zero, List.set_cons_succ])
              refine wpAnyH_take (i := 11) (oi := _) (v := ?_) rfl (by kernel_rfl) (by kernel_rfl) (by kernel_rfl) (fun _ _ _ h => h) (Or.inl ⟨by rfl, ?_⟩) hHeld ?_
              rotate_left 1
              · intro w hSw
                (try dsimp only at hSw)
                skip
                go_simp <;> with_reducible rfl
              (try simp only [Act.put, List.setIfInBounds_toArray, List.set_cons_zero, List.set_cons_succ])
              refine wpAnyH_take (i := 13) (oi := _) (v := ?_) rfl (by kernel_rfl) (by kernel_rfl) (by kernel_rfl) (fun _ _ _ h => h) (Or.inl ⟨by rfl, ?_⟩) hHeld ?_
              rotate_left 1
              · intro w hSw
                (try dsimp only at hSw)
                skip
                go_simp <;> with_reducible rfl
              (try simp only [Act.put, List.setIfInBounds_toArray, List.set_cons_zero, List.set_cons_succ])
              refine wpAnyH_take (i := 14) (oi := _) (v := ?_) rfl (by kernel_rfl) (by kernel_rfl) (by kernel_rfl) (fun _ _ _ h => h) (Or.inl ⟨by rfl, ?_⟩) hHeld ?_
              rotate_left 1
              · intro w hSw
                (try dsimp only at hSw)
                skip
                go_simp <;> with_reducible rfl
              (try simp only [Act.put, List.setIfInBounds_toArray, List.set_cons_zero, List.set_cons_succ])
              refine wpAnyH_take (i := 16) (oi := _) (v := ?_) rfl (by kernel_rfl) (by kernel_rfl) (by kernel_rfl) (fun _ _ _ h => h) (Or.inl ⟨by rfl, ?_⟩) hHeld ?_
              rotate_left 1
              · intro w hSw
                (try dsimp only at hSw)
                skip
                go_simp <;> with_reducible rfl
              (try simp only [Act.put, List.setIfInBounds_toArray, List.set_cons_zero, List.set_cons_succ])
              refine wpAnyH_take (i := 17) (oi := _) (v := ?_) rfl (by kernel_rfl) (by kernel_rfl) (by kernel_rfl) (fun _ _ _ h => h) (Or.inl ⟨by rfl, ?_⟩) hHeld ?_
              rotate_left 1
              · intro w hSw
                (try dsimp only at hSw)
                skip
                go_simp <;> with_reducible rfl
              (try simp only [Act.put, List.setIfInBounds_toArray, List.set_cons_zero, List.set_cons_succ])
              refine wpAnyH_ready (rs := [3]) (by kernel_rfl) (by simp) ?_
              refine (AllReadyH.cons (o := _) rfl (fun K hK => ?_) AllReadyH.nil)
              · go_simp
                refine (H3.out _ _ HBX.out).mono ?_
                rintro e w3 ⟨rfl, hb3, hg3⟩
                have HG := Lib.hid (Go.Lib.grownBy_trans HG.out hg3)
                have HBX := Lib.hid hb3
                clear hb3 hg3
                go_wp2_with fail
                refine hK.out _ _ ?_ (fun hHeld => ?_)
                · exact ⟨HBX.out.at 0 _ rfl, HBX.out.at 1 _ rfl, HBX.out.at 2 _ rfl, HBX.out.at 3 _ rfl⟩
                clear hK K
                (try simp only [Act.put, List.setIfInBounds_toArray, List.set_cons_zero, List.set_cons_succ])
                refine wpAnyH_take (i := 6) (oi := _) (v := ?_) rfl (by kernel_rfl) (by kernel_rfl) (by kernel_rfl) (fun _ _ _ h => h) (Or.inl ⟨by rfl, ?_⟩) hHeld ?_
                rotate_left 1
                · intro w hSw
                  (try dsimp only at hSw)
                  skip
                  go_simp <;> with_reducible rfl
                (try simp only [Act.put, List.setIfInBounds_toArray, List.set_cons_zero, List.set_cons_succ])
                refine wpAnyH_ready (rs := [12]) (by kernel_rfl) (by simp) ?_
                refine (AllReadyH.cons (o := _) rfl (fun K hK => ?_) AllReadyH.nil)
                · go_simp
                  refine (H12.out _ _ HBX.out).mono ?_
                  rintro e w12 ⟨rfl, hb12, hg12⟩
                  have HG := Lib.hid (Go.Lib.grownBy_trans HG.out hg12)
                  have HBX := Lib.hid hb12
                  clear hb12 hg12
                  go_wp2_with fail
                  refine hK.out _ _ ?_ (fun hHeld => ?_)
                  · exact ⟨HBX.out.at 0 _ rfl, HBX.out.at 1 _ rfl, HBX.out.at 2 _ rfl, HBX.out.at 3 _ rfl⟩
                  clear hK K
                  (try simp only [Act.put, List.setIfInBounds_toArray, List.set_cons_zero, List.set_cons_succ])
                  refine wpAnyH_take (i := 15) (oi := _) (v := ?_) rfl (by kernel_rfl) (by kernel_rfl) (by kernel_rfl) (fun _ _ _ h => h) (Or.inl ⟨by rfl, ?_⟩) hHeld ?_
                  rotate_left 1
                  · intro w hSw
                    (try dsimp only at hSw)
                    skip
                    go_simp <;> with_reducible rfl
                  (try simp only [Act.put, List.setIfInBounds_toArray, List.set_cons_zero, List.set_cons_succ])
                  refine wpAnyH_done (by kernel_rfl) ?_ _
                  change wpList _ _ _ _ _ _
                  go_wp2_with fail
                  refine (HSET.out _ _ HBX.out).mono ?_
                  rintro e w22 ⟨rfl, hb22, hg22⟩
                  have HD9 := Lib.hid (HD0.out.grow (Go.Lib.grownBy_trans HG.out hg22) hb22)
                  clear hb22 hg22
                  go_wp2_with fail
                  go_meet
                  exact HCT.out _ _ (by unfold S4.fdB; cases fitI s.a t <;> cases fitI s.c t <;> rfl) HD9.out
            case rest =>
              clear HD0 HE H3 H12 HSET HCT
              clear z0 z1 z2 z3 z4
              have HF := Lib.hid hcut
              clear hcut
              cases fl
              · have u4 := HF.out.bs.at 4 _ rfl
                obtain ⟨s', hs'⟩ : ∃ s', s.fd t = some s' := by
                  have h := HFL.out
                  cases e : s.fd t with
                  | none => rw [e] at h; cases h
                  | some x => exact ⟨x, rfl⟩
                have HFS := Lib.hid hs'
                have hN := (fd_flag s t).2 s' hs'
                rw [hN] at HF
                clear hN hs'
                go_wp2
                go_roundw
                case rel => exact ⟨s', k + 1, out, by go_num, ho, ⟨HS.out.1.fd (by have := HNK.out; omega) (fun h => (HTB.out k t hkle HTS.out).2.2 h) HFS.out, HS.out.2.fd1 HKN.out HTS.out HNK.out HFS.out⟩, HF.out⟩
                case measure =>
                  rw [show Value.int IntKind.i64 ((k : Int) + 1) = .int .i64 ((k + 1 : Nat) : Int) by go_num, muW_eq HF.out.bs, muW_eq HD.out.bs]
                  exact mu_fd HS.out.1 HNK.out HKN.out
              · have u4 := HF.out.bs.at 4 _ rfl
                have HRR : Hid (R = ([], 0, 5)) := HS.out.2.fd0 HKN.out HTS.out HNK.out (by
                  have h := HFL.out
                  cases e : s.fd t with
                  | none => rfl
                  | some x => rw [e] at h; cases h)
                go_wp2
                refine bodyPost_ret (v := .tuple #[.slice none 0 0, .int .i64 0, .int .i64 5]) (by simp [results, Tryz.results25, go_sem]; done) rfl ?_
                rw [HRR.out]
                exact RetDg.nil_ HF.out.below
          · rw [h2] at HK
            clear h2
            go_upto_region 15 with (first | (go_at_call 54; (with_reducible refine (HK.out _).mono ?_); rintro e w' ⟨rfl, rfl⟩) | (go_at_call 58; (with_reducible refine (HTK.out _ HD.out.below).mono ?_); rintro e w2 ⟨rfl, hb2⟩; have HE := Lib.hid (HD.out.next hb2); have z0 := HE.out.bs.at 0 _ rfl; have z1 := HE.out.bs.at 1 _ rfl; have z2 := HE.out.bs.at 2 _ rfl; have z3 := HE.out.bs.at 3 _ rfl; have z4 := HE.out.bs.at 4 _ rfl; clear hb2 x0 x1 x2 x3 x4 y0 y1 y2))
            have HD0 := Lib.hid HE.out.drew
            go_cut [104] (fun _ wx => DgI w [.slice H nh ch, .slice P np cp, .slice G ng cg] (s.fdI t).nrm fl out (.slice A out.length ca) wx)
            case first =>
              have hHeld : (fun W : World => W.cell? ⟨w.heap.size + 1, 0, none⟩ = some (.int .i64 s.a) ∧ W.cell? ⟨w.heap.size + 1, 1, none⟩ = some (.int .i64 s.b) ∧ W.cell? ⟨w.heap.size + 1, 2, none⟩ = some (.int .i64 s.c) ∧ W.cell? ⟨w.heap.size + 1, 3, none⟩ = some (.int .i64 s.d)) w2.drew := ⟨HD0.out.bs.at 0 _ rfl, HD0.out.bs.at 1 _ rfl, HD0.out.bs.at 2 _ rfl, HD0.out.bs.at 3 _ rfl⟩
              have HBX := Lib.hid HD0.out.bs
              have HG := Lib.hid (World.grownBy.refl w2.drew (some (w.heap.size + 1)))
              clear z0 z1 z2 z3 z4 HE
              refine wp_region_sink 18 (by kernel_rfl) (by kernel_rfl) ?_
              refine wpAny_of_held (S := fun W : World => W.cell? ⟨w.heap.size + 1, 0, none⟩ = some (.int .i64 s.a) ∧ W.cell? ⟨w.heap.size + 1, 1, none⟩ = some (.int .i64 s.b) ∧ W.cell? ⟨w.heap.size + 1, 2, none⟩ = some (.int .i64 s.c) ∧ W.cell? ⟨w.heap.size + 1, 3, none⟩ = some (.int .i64 s.d)) _ _ _ _ ?_
              change wpAnyH _ _ _ _ _ 18 (Array.replicate 18 false) _ _
              (try simp only [List.take_succ_cons, List.take_zero, List.drop_succ_cons, List.drop_zero])
              refine wpAnyH_take (i := 0) (oi := _) (v := ?_) rfl (by kernel_rfl) (by kernel_rfl) (by kernel_rfl) (fun _ _ _ h => h) (Or.inl ⟨by rfl, ?_⟩) hHeld ?_
              rotate_left 1
              · intro w hSw
                (try dsimp only at hSw)
                skip
                go_simp <;> with_reducible rfl
              (try simp only [Act.put, List.setIfInBounds_toArray, List.set_cons_zero, List.set_cons_succ])
              refine wpAnyH_take (i := 1) (oi := _) (v := ?_) rfl (by kernel_rfl) (by kernel_rfl) (by kernel_rfl) (fun _ _ _ h => h) (Or.inl ⟨by rfl, ?_⟩) hHeld ?_
              rotate_left 1
              · intro w hSw
                (try dsimp only at hSw)
                skip
                go_simp <;> with_reducible rfl
              (try simp only [Act.put, List.setIfInBounds_toArray, List.set_cons_zero, List.set_cons_succ])
              refine wpAnyH_take (i := 2) (oi := _) (v := ?_) rfl (by kernel_rfl) (by kernel_rfl) (by kernel_rfl) (fun _ _ _ h => h) (Or.inl ⟨by rfl, ?_⟩) hHeld ?_
              rotate_left 1
              · intro w hSw
                (try dsimp only at hSw)
                skip
                go_simp <;> with_reducible rfl
              (try simp only [Act.put, List.setIfInBounds_toArray, List.set_cons_zero, List.set_cons_succ])
              refine wpAnyH_take (i := 4) (oi := _) (v := ?_) rfl (by kernel_rfl) (by kernel_rfl) (by kernel_rfl) (fun _ _ _ h => h) (Or.inl ⟨by rfl, ?_⟩) hHeld ?_
              rotate_left 1
              · intro w hSw
                (try dsimp only at hSw)
                skip
                go_simp <;> with_reducible rfl
              (try simp only [Act.put, List.setIfInBounds_toArray, List.set_cons_zero, List.set_cons_succ])
              refine wpAnyH_take (i := 5) (oi := _) (v := ?_) rfl (by kernel_rfl) (by kernel_rfl) (by kernel_rfl) (fun _ _ _ h => h) (Or.inl ⟨by rfl, ?_⟩) hHeld ?_
              rotate_left 1
              · intro w hSw
                (try dsimp only at hSw)
                skip
                go_simp <;> with_reducible rfl
              (try simp only [Act.put, List.setIfInBounds_toArray, List.set_cons_zero, List.set_cons_succ])
              refine wpAnyH_take (i := 7) (oi := _) (v := ?_) rfl (by kernel_rfl) (by kernel_rfl) (by kernel_rfl) (fun _ _ _ h => h) (Or.inl ⟨by rfl, ?_⟩) hHeld ?_
              rotate_left 1
              · intro w hSw
                (try dsimp only at hSw)
                skip
                go_simp <;> with_reducible rfl
              (try simp only [Act.put, List.setIfInBounds_toArray, List.set_cons_zero, List.set_cons_succ])
              refine wpAnyH_take (i := 8) (oi := _) (v := ?_) rfl (by kernel_rfl) (by kernel_rfl) (by kernel_rfl) (fun _ _ _ h => h) (Or.inl ⟨by rfl, ?_⟩) hHeld ?_
              rotate_left 1
              · intro w hSw
                (try dsimp only at hSw)
                skip
                go_simp <;> with_reducible rfl
              (try simp only [Act.put, List.setIfInBounds_toArray, List.set_cons_zero, List.set_cons_succ])
              refine wpAnyH_take (i := 9) (oi := _) (v := ?_) rfl (by kernel_rfl) (by kernel_rfl) (by kernel_rfl) (fun _ _ _ h => h) (Or.inl ⟨by rfl, ?_⟩) hHeld ?_
              rotate_left 1
              · intro w hSw
                (try dsimp only at hSw)
                skip
                go_simp <;> with_reducible rfl
              (try simp only [Act.put, List.setIfInBounds_toArray, List.set_cons_zero, List.set_cons_succ])
              refine wpAnyH_take (i := 10) (oi := _) (v := ?_) rfl (by kernel_rfl) (by kernel_rfl) (by kernel_rfl) (fun _ _ _ h => h) (Or.inl ⟨by rfl, ?_⟩) hHeld ?_
              rotate_left 1
              · intro w hSw
                (try dsimp only at hSw)
                skip
                go_simp <;> with_reducible rfl
              (try simp only [Act.put, List.setIfInBounds_toArray, List.set_cons_zero, List.set_cons_succ])
              refine wpAnyH_take (i := 11) (oi := _) (v := ?_) rfl (by kernel_rfl) (by kernel_rfl) (by kernel_rfl) (fun _ _ _ h => h) (Or.inl ⟨by rfl, ?_⟩) hHeld ?_
              rotate_left 1
              · intro w hSw
                (try dsimp only at hSw)
                skip
                go_simp <;> with_reducible rfl
              (try simp only [Act.put, List.setIfInBounds_toArray, List.set_cons_zero, List.set_cons_succ])
              refine wpAnyH_take (i := 13) (oi := _) (v := ?_) rfl (by kernel_rfl) (by kernel_rfl) (by kernel_rfl) (fun _ _ _ h => h) (Or.inl ⟨by rfl, ?_⟩) hHeld ?_
              rotate_left 1
              · intro w hSw
                (try dsimp only at hSw)
                skip
                go_simp <;> with_reducible rfl
              (try simp only [Act.put, List.setIfInBounds_toArray, List.set_cons_zero, List.set_cons_succ])
              refine wpAnyH_take (i := 14) (oi := _) (v := ?_) rfl (by kernel_rfl) (by kernel_rfl) (by kernel_rfl) (fun _ _ _ h => h) (Or.inl ⟨by rfl, ?_⟩) hHeld ?_
              rotate_left 1
              · intro w hSw
                (try dsimp only at hSw)
                skip
                go_simp <;> with_reducible rfl
              (try simp only [Act.put, List.setIfInBounds_toArray, List.set_cons_zero, List.set_cons_succ])
              refine wpAnyH_take (i := 16) (oi := _) (v := ?_) rfl (by kernel_rfl) (by kernel_rfl) (by kernel_rfl) (fun _ _ _ h => h) (Or.inl ⟨by rfl, ?_⟩) hHeld ?_
              rotate_left 1
              · intro w hSw
                (try dsimp only at hSw)
                skip
                go_simp <;> with_reducible rfl
              (try simp only [Act.put, List.setIfInBounds_toArray, List.set_cons_zero, List.set_cons_succ])
              refine wpAnyH_take (i := 17) (oi := _) (v := ?_) rfl (by kernel_rfl) (by kernel_rfl) (by kernel_rfl) (fun _ _ _ h => h) (Or.inl ⟨by rfl, ?_⟩) hHeld ?_
              rotate_left 1
              · intro w hSw
                (try dsimp only at hSw)
                skip
                go_simp <;> with_reducible rfl
              (try simp only [Act.put, List.setIfInBounds_toArray, List.set_cons_zero, List.set_cons_succ])
              refine wpAnyH_ready (rs := [3]) (by kernel_rfl) (by simp) ?_
              refine (AllReadyH.cons (o := _) rfl (fun K hK => ?_) AllReadyH.nil)
              · go_simp
                refine (H3.out _ _ HBX.out).mono ?_
                rintro e w3 ⟨rfl, hb3, hg3⟩
                have HG := Lib.hid (Go.Lib.grownBy_trans HG.out hg3)
                have HBX := Lib.hid hb3
                clear hb3 hg3
                go_wp2_with fail
                refine hK.out _ _ ?_ (fun hHeld => ?_)
                · exact ⟨HBX.out.at 0 _ rfl, HBX.out.at 1 _ rfl, HBX.out.at 2 _ rfl, HBX.out.at 3 _ rfl⟩
                clear hK K
                (try simp only [Act.put, List.setIfInBounds_toArray, List.set_cons_zero, List.set_cons_succ])
                refine wpAnyH_take (i := 6) (oi := _) (v := ?_) rfl (by kernel_rfl) (by kernel_rfl) (by kernel_rfl) (fun _ _ _ h => h) (Or.inl ⟨by rfl, ?_⟩) hHeld ?_
                rotate_left 1
                · intro w hSw
                  (try dsimp only at hSw)
                  skip
                  go_simp <;> with_reducible rfl
                (try simp only [Act.put, List.setIfInBounds_toArray, List.set_cons_zero, List.set_cons_succ])
                refine wpAnyH_ready (rs := [12]) (by kernel_rfl) (by simp) ?_
                refine (AllReadyH.cons (o := _) rfl (fun K hK => ?_) AllReadyH.nil)
                · go_simp
                  refine (H12.out _ _ HBX.out).mono ?_
                  rintro e w12 ⟨rfl, hb12, hg12⟩
                  have HG := Lib.hid (Go.Lib.grownBy_trans HG.out hg12)
                  have HBX := Lib.hid hb12
                  clear hb12 hg12
                  go_wp2_with fail
                  refine hK.out _ _ ?_ (fun hHeld => ?_)
                  · exact ⟨HBX.out.at 0 _ rfl, HBX.out.at 1 _ rfl, HBX.out.at 2 _ rfl, HBX.out.at 3 _ rfl⟩
                  clear hK K
                  (try simp only [Act.put, List.setIfInBounds_toArray, List.set_cons_zero, List.set_cons_succ])
                  refine wpAnyH_take (i := 15) (oi := _) (v := ?_) rfl (by kernel_rfl) (by kernel_rfl) (by kernel_rfl) (fun _ _ _ h => h) (Or.inl ⟨by rfl, ?_⟩) hHeld ?_
                  rotate_left 1
                  · intro w hSw
                    (try dsimp only at hSw)
                    skip
                    go_simp <;> with_reducible rfl
                  (try simp only [Act.put, List.setIfInBounds_toArray, List.set_cons_zero, List.set_cons_succ])
                  refine wpAnyH_done (by kernel_rfl) ?_ _
                  change wpList _ _ _ _ _ _
                  go_wp2_with fail
                  refine (HSET.out _ _ HBX.out).mono ?_
                  rintro e w22 ⟨rfl, hb22, hg22⟩
                  have HD9 := Lib.hid (HD0.out.grow (Go.Lib.grownBy_trans HG.out hg22) hb22)
                  clear hb22 hg22
                  go_wp2_with fail
                  go_meet
                  exact HCT.out _ _ (by unfold S4.fdB; cases fitI s.a t <;> cases fitI s.c t <;> rfl) HD9.out
            case rest =>
              clear HD0 HE H3 H12 HSET HCT
              clear z0 z1 z2 z3 z4
              have HF := Lib.hid hcut
              clear hcut
              cases fl
              · have u4 := HF.out.bs.at 4 _ rfl
                obtain ⟨s', hs'⟩ : ∃ s', s.fd t = some s' := by
                  have h := HFL.out
                  cases e : s.fd t with
                  | none => rw [e] at h; cases h
                  | some x => exact ⟨x, rfl⟩
                have HFS := Lib.hid hs'
                have hN := (fd_flag s t).2 s' hs'
                rw [hN] at HF
                clear hN hs'
                go_wp2
                go_roundw
                case rel => exact ⟨s', k + 1, out, by go_num, ho, ⟨HS.out.1.fd (by have := HNK.out; omega) (fun h => (HTB.out k t hkle HTS.out).2.2 h) HFS.out, HS.out.2.fd1 HKN.out HTS.out HNK.out HFS.out⟩, HF.out⟩
                case measure =>
                  rw [show Value.int IntKind.i64 ((k : Int) + 1) = .int .i64 ((k + 1 : Nat) : Int) by go_num, muW_eq HF.out.bs, muW_eq HD.out.bs]
                  exact mu_fd HS.out.1 HNK.out HKN.out
              · have u4 := HF.out.bs.at 4 _ rfl
                have HRR : Hid (R = ([], 0, 5)) := HS.out.2.fd0 HKN.out HTS.out HNK.out (by
                  have h := HFL.out
                  cases e : s.fd t with
                  | none => rfl
                  | some x => rw [e] at h; cases h)
                go_wp2
                refine bodyPost_ret (v := .tuple #[.slice none 0 0, .int .i64 0, .int .i64 5]) (by simp [results, Tryz.results25, go_sem]; done) rfl ?_
                rw [HRR.out]
                exact RetDg.nil_ HF.out.below
    · have HKN := Lib.hid hkn
      obtain ⟨k0, kn1⟩ : 0 < k ∧ s.kn = true := by simpa using hkn
      have h1 : decide ((0 : Int) < (k : Int)) = true := by simp; omega
      have h1n : decide (0 < k) = true := by simp; omega
      have c1' : 1 ≤ s.c := by
        rcases HS.out.1.pos with ⟨e, _⟩ | ⟨_, h, _⟩
        · omega
        · exact h
      obtain ⟨q1, q2⟩ := S4.q_bd HS.out.1.low c1'
      rw [kn1] at HK
      have HK0 := Lib.hid k0
      clear hkn kn1 k0
      by_cases hcnt : count < out.length + 1
      · have e1 : decide ((count : Int) < ((out.length + 1 : Nat) : Int)) = true := by simp; omega
        have e2 : decide (count < out.length + 1) = true := by simp; omega
        have e3 : decide ((count : Int) < (out.length : Int) + 1) = true := by simp; omega
        have HRR := Lib.hid (HS.out.2.done HKN.out hcnt)
        clear hcnt
        go_wp2_with fail
        refine (HK.out _).mono ?_
        rintro e w' ⟨rfl, rfl⟩
        have hown := HD.out.own
        have hbz := HD.out.lt
        go_wp2_with (at_builtin; refine wpList_append_own _ rfl _ _ 24 rfl (w.heap.size + 2) 2 i0 (.int .i64 0) 1 8 Tryz.underlying24 HI.out hz0 hz1 hz2 rfl (by decide) _ _ _ rfl (hown.alloc _) ⟨wr.heap.size, 0, none⟩ 1 1 [.int .i64 s.q] rfl rfl ?c1 ?c2 ?c3 ?c4 ?c5 ?_)
        case c1 => exact cell_one_new _ _ _
        case c2 => simp [Value.oneCell']
        case c3 => unfold maxLen; omega
        case c4 => omega
        case c5 => simp; omega
        intro v' w3 hown3 hgrow _
        have HD3 := Lib.hid (HD.out.push _ _ hown3 hgrow)
        obtain ⟨A3, c3, rfl⟩ := own_slice hown3
        clear hown3 hgrow hown
        clear x0 x1 x2 x3 x4 y0 y1 y2
        have x0 := HD3.out.bs.at 0 _ rfl
        have x1 := HD3.out.bs.at 1 _ rfl
        have x2 := HD3.out.bs.at 2 _ rfl
        have x3 := HD3.out.bs.at 3 _ rfl
        have x4 := HD3.out.bs.at 4 _ rfl
        go_wp2_with (go_at_call 55; refine (sizeT_any _ _ _ _).mono ?_; rintro e w' ⟨rfl, rfl⟩)
        refine bodyPost_ret (v := .tuple #[.slice A3 (out.length + 1) c3, .int .i64 (k : Int), .int .i64 0]) (by simp [results, Tryz.results25, go_sem]; done) rfl ?_
        rw [HRR.out]
        exact RetDg.fin_ HD3.out
      · have e1 : decide ((count : Int) < ((out.length + 1 : Nat) : Int)) = false := by simp; omega
        have e2 : decide (count < out.length + 1) = false := by simp; omega
        have e3 : decide ((count : Int) < (out.length : Int) + 1) = false := by simp; omega
        obtain ⟨fl, hfl⟩ : ∃ b, (s.tk base).isNone = b := ⟨_, rfl⟩
        have HFL := Lib.hid hfl
        have HCT : Hid (∀ (f : Bool) (v : Value) (W : World), f = (s.tkB base || !(s.tkI base).nrm.low) → DgI w [.slice H nh ch, .slice P np cp, .slice G ng cg] (s.tkI base).nrm f (out ++ [s.q]) v W → DgI w [.slice H nh ch, .slice P np cp, .slice G ng cg] (s.tkI base).nrm fl (out ++ [s.q]) v W) := fun f v W h k => by
          rw [h, (tk_flag s base).1, hfl] at k
          exact k
        have b3 := mulV_bd s.q s.c
        have b4 := mulV_bd s.q s.d
        have b5 := mulV_bd base (s.a - mulV s.q s.c)
        have b6 := mulV_bd base (s.b - mulV s.q s.d)
        have H6 := Lib.hid (mul_any (w.heap.size + 1) s.a s.b s.c s.d s.q s.c (by omega) (by omega) (by omega) (by omega))
        have H8 := Lib.hid (mul_any (w.heap.size + 1) s.a s.b s.c s.d base (s.a - mulV s.q s.c) (by omega) (by omega) (by omega) (by omega))
        have H15 := Lib.hid (mul_any (w.heap.size + 1) s.a s.b s.c s.d s.q s.d (by omega) (by omega) (by omega) (by omega))
        have H17 := Lib.hid (mul_any (w.heap.size + 1) s.a s.b s.c s.d base (s.b - mulV s.q s.d) (by omega) (by omega) (by omega) (by omega))
        have HSET : Hid (∀ (f : Bool) (V : World), BoxV (w.heap.size + 1) (dsC s f) V → Calls Tryz.prog 56 #[.pointer (some ⟨w.heap.size + 1, 0, none⟩), .int .i64 (mulV base (s.a - mulV s.q s.c)), .int .i64 (mulV base (s.b - mulV s.q s.d)), .int .i64 s.c, .int .i64 s.d] V fun e w' => e = .returned (.tuple #[]) ∧ BoxV (w.heap.size + 1) (dsC (s.tkI base).nrm (f || !(s.tkI base).nrm.low)) w' ∧ V.grownBy w' (some (w.heap.size + 1))) := fun f V h => dset_any (w.heap.size + 1) (s.tkI base) s f V h ⟨by show _ ≤ mulV base (s.a - mulV s.q s.c); omega, by show mulV base (s.a - mulV s.q s.c) ≤ _; omega⟩ ⟨by show _ ≤ mulV base (s.b - mulV s.q s.d); omega, by show mulV base (s.b - mulV s.q s.d) ≤ _; omega⟩ ⟨by show _ ≤ s.c; omega, by show s.c ≤ _; omega⟩ ⟨by show _ ≤ s.d; omega, by show s.d ≤ _; omega⟩
        have v1 : IntKind.i64.wrap (s.a - mulV s.q s.c) = s.a - mulV s.q s.c := IntWalk.i64_in _ (by omega)
        have v2 : IntKind.i64.wrap (s.b - mulV s.q s.d) = s.b - mulV s.q s.d := IntWalk.i64_in _ (by omega)
        have HNC := Lib.hid hcnt
        clear hfl hcnt
        go_wp2_with fail
        refine (HK.out _).mono ?_
        rintro e w' ⟨rfl, rfl⟩
        have hown := HD.out.own
        have hbz := HD.out.lt
        go_wp2_with (at_builtin; refine wpList_append_own _ rfl _ _ 24 rfl (w.heap.size + 2) 2 i0 (.int .i64 0) 1 8 Tryz.underlying24 HI.out hz0 hz1 hz2 rfl (by decide) _ _ _ rfl (hown.alloc _) ⟨wr.heap.size, 0, none⟩ 1 1 [.int .i64 s.q] rfl rfl ?c1 ?c2 ?c3 ?c4 ?c5 ?_)
        case c1 => exact cell_one_new _ _ _
        case c2 => simp [Value.oneCell']
        case c3 => unfold maxLen; omega
        case c4 => omega
        case c5 => simp; omega
        intro v' w3 hown3 hgrow _
        have HD3 := Lib.hid (HD.out.push _ _ hown3 hgrow)
        obtain ⟨A3, c3, rfl⟩ := own_slice hown3
        clear hown3 hgrow hown
        clear x0 x1 x2 x3 x4 y0 y1 y2
        have x0 := HD3.out.bs.at 0 _ rfl
        have x1 := HD3.out.bs.at 1 _ rfl
        have x2 := HD3.out.bs.at 2 _ rfl
        have x3 := HD3.out.bs.at 3 _ rfl
        have x4 := HD3.out.bs.at 4 _ rfl
        go_upto_region 9 with (go_at_call 55; refine (sizeT_any _ _ _ _).mono ?_; rintro e w' ⟨rfl, rfl⟩)
        have HD0 := Lib.hid HD3.out.drew
        go_cut [66] (fun _ wx => DgI w [.slice H nh ch, .slice P np cp, .slice G ng cg] (s.tkI base).nrm fl (out ++ [s.q]) (.slice A3 (out.length + 1) c3) wx)
        case first =>
          have hHeld : (fun W : World => W.cell? ⟨w.heap.size + 1, 0, none⟩ = some (.int .i64 s.a) ∧ W.cell? ⟨w.heap.size + 1, 1, none⟩ = some (.int .i64 s.b) ∧ W.cell? ⟨w.heap.size + 1, 2, none⟩ = some (.int .i64 s.c) ∧ W.cell? ⟨w.heap.size + 1, 3, none⟩ = some (.int .i64 s.d)) w3.drew := ⟨HD0.out.bs.at 0 _ rfl, HD0.out.bs.at 1 _ rfl, HD0.out.bs.at 2 _ rfl, HD0.out.bs.at 3 _ rfl⟩
          have HBX := Lib.hid HD0.out.bs
          have HG := Lib.hid (World.grownBy.refl w3.drew (some (w.heap.size + 1)))
          clear HD3
          refine wp_region_sink 22 (by kernel_rfl) (by kernel_rfl) ?_
          refine wpAny_of_held (S := fun W : World => W.cell? ⟨w.heap.size + 1, 0, none⟩ = some (.int .i64 s.a) ∧ W.cell? ⟨w.heap.size + 1, 1, none⟩ = some (.int .i64 s.b) ∧ W.cell? ⟨w.heap.size + 1, 2, none⟩ = some (.int .i64 s.c) ∧ W.cell? ⟨w.heap.size + 1, 3, none⟩ = some (.int .i64 s.d)) _ _ _ _ ?_
          change wpAnyH _ _ _ _ _ 22 (Array.replicate 22 false) _ _
          (try simp only [List.take_succ_cons, List.take_zero, List.drop_succ_cons, List.drop_zero])
          refine wpAnyH_take (i := 0) (oi := _) (v := ?_) rfl (by kernel_rfl) (by kernel_rfl) (by kernel_rfl) (fun _ _ _ h => h) (Or.inl ⟨by rfl, ?_⟩) hHeld ?_
          rotate_left 1
          · intro w hSw
            (try dsimp only at hSw)
            skip
            go_simp <;> with_reducible rfl
          (try simp only [Act.put, List.setIfInBounds_toArray, List.set_cons_zero, List.set_cons_succ])
          refine wpAnyH_take (i := 1) (oi := _) (v := ?_) rfl (by kernel_rfl) (by kernel_rfl) (by kernel_rfl) (fun _ _ _ h => h) (Or.inl ⟨by rfl, ?_⟩) hHeld ?_
          rotate_left 1
          · intro w hSw
            (try dsimp only at hSw)
            skip
            go_simp <;> with_reducible rfl
          (try simp only [Act.put, List.setIfInBounds_toArray, List.set_cons_zero, List.set_cons_succ])
          refine wpAnyH_take (i := 2) (oi := _) (v := ?_) rfl (by kernel_rfl) (by kernel_rfl) (by kernel_rfl) (fun _ _ _ h => h) (Or.inl ⟨by rfl, ?_⟩) hHeld ?_
          rotate_left 1
          · intro w hSw
            (try dsimp only at hSw)
            skip
            go_simp <;> with_reducible rfl
          (try simp only [Act.put, List.setIfInBounds_toArray, List.set_cons_zero, List.set_cons_succ])
          refine wpAnyH_take (i := 3) (oi := _) (v := ?_) rfl (by kernel_rfl) (by kernel_rfl) (by kernel_rfl) (fun _ _ _ h => h) (Or.inl ⟨by rfl, ?_⟩) hHeld ?_
          rotate_left 1
          · intro w hSw
            (try dsimp only at hSw)
            skip
            go_simp <;> with_reducible rfl
          (try simp only [Act.put, List.setIfInBounds_toArray, List.set_cons_zero, List.set_cons_succ])
          refine wpAnyH_take (i := 4) (oi := _) (v := ?_) rfl (by kernel_rfl) (by kernel_rfl) (by kernel_rfl) (fun _ _ _ h => h) (Or.inl ⟨by rfl, ?_⟩) hHeld ?_
          rotate_left 1
          · intro w hSw
            (try dsimp only at hSw)
            skip
            go_simp <;> with_reducible rfl
          (try simp only [Act.put, List.setIfInBounds_toArray, List.set_cons_zero, List.set_cons_succ])
          refine wpAnyH_take (i := 5) (oi := _) (v := ?_) rfl (by kernel_rfl) (by kernel_rfl) (by kernel_rfl) (fun _ _ _ h => h) (Or.inl ⟨by rfl, ?_⟩) hHeld ?_
          rotate_left 1
          · intro w hSw
            (try dsimp only at hSw)
            skip
            go_simp <;> with_reducible rfl
          (try simp only [Act.put, List.setIfInBounds_toArray, List.set_cons_zero, List.set_cons_succ])
          refine wpAnyH_take (i := 9) (oi := _) (v := ?_) rfl (by kernel_rfl) (by kernel_rfl) (by kernel_rfl) (fun _ _ _ h => h) (Or.inl ⟨by rfl, ?_⟩) hHeld ?_
          rotate_left 1
          · intro w hSw
            (try dsimp only at hSw)
            skip
            go_simp <;> with_reducible rfl
          (try simp only [Act.put, List.setIfInBounds_toArray, List.set_cons_zero, List.set_cons_succ])
          refine wpAnyH_take (i := 10) (oi := _) (v := ?_) rfl (by kernel_rfl) (by kernel_rfl) (by kernel_rfl) (fun _ _ _ h => h) (Or.inl ⟨by rfl, ?_⟩) hHeld ?_
          rotate_left 1
          · intro w hSw
            (try dsimp only at hSw)
            skip
            go_simp <;> with_reducible rfl
          (try simp only [Act.put, List.setIfInBounds_toArray, List.set_cons_zero, List.set_cons_succ])
          refine wpAnyH_take (i := 11) (oi := _) (v := ?_) rfl (by kernel_rfl) (by kernel_rfl) (by kernel_rfl) (fun _ _ _ h => h) (Or.inl ⟨by rfl, ?_⟩) hHeld ?_
          rotate_left 1
          · intro w hSw
            (try dsimp only at hSw)
            skip
            go_simp <;> with_reducible rfl
          (try simp only [Act.put, List.setIfInBounds_toArray, List.set_cons_zero, List.set_cons_succ])
          refine wpAnyH_take (i := 12) (oi := _) (v := ?_) rfl (by kernel_rfl) (by kernel_rfl) (by kernel_rfl) (fun _ _ _ h => h) (Or.inl ⟨by rfl, ?_⟩) hHeld ?_
          rotate_left 1
          · intro w hSw
            (try dsimp only at hSw)
            skip
            go_simp <;> with_reducible rfl
          (try simp only [Act.put, List.setIfInBounds_toArray, List.set_cons_zero, List.set_cons_succ])
          refine wpAnyH_take (i := 13) (oi := _) (v := ?_) rfl (by kernel_rfl) (by kernel_rfl) (by kernel_rfl) (fun _ _ _ h => h) (Or.inl ⟨by rfl, ?_⟩) hHeld ?_
          rotate_left 1
          · intro w hSw
            (try dsimp only at hSw)
            skip
            go_simp <;> with_reducible rfl
          (try simp only [Act.put, List.setIfInBounds_toArray, List.set_cons_zero, List.set_cons_succ])
          refine wpAnyH_take (i := 14) (oi := _) (v := ?_) rfl (by kernel_rfl) (by kernel_rfl) (by kernel_rfl) (fun _ _ _ h => h) (Or.inl ⟨by rfl, ?_⟩) hHeld ?_
          rotate_left 1
          · intro w hSw
            (try dsimp only at hSw)
            skip
            go_simp <;> with_reducible rfl
          (try simp only [Act.put, List.setIfInBounds_toArray, List.set_cons_zero, List.set_cons_succ])
          refine wpAnyH_take (i := 18) (oi := _) (v := ?_) rfl (by kernel_rfl) (by kernel_rfl) (by kernel_rfl) (fun _ _ _ h => h) (Or.inl ⟨by rfl, ?_⟩) hHeld ?_
          rotate_left 1
          · intro w hSw
            (try dsimp only at hSw)
            skip
            go_simp <;> with_reducible rfl
          (try simp only [Act.put, List.setIfInBounds_toArray, List.set_cons_zero, List.set_cons_succ])
          refine wpAnyH_take (i := 19) (oi := _) (v := ?_) rfl (by kernel_rfl) (by kernel_rfl) (by kernel_rfl) (fun _ _ _ h => h) (Or.inl ⟨by rfl, ?_⟩) hHeld ?_
          rotate_left 1
          · intro w hSw
            (try dsimp only at hSw)
            skip
            go_simp <;> with_reducible rfl
          (try simp only [Act.put, List.setIfInBounds_toArray, List.set_cons_zero, List.set_cons_succ])
          refine wpAnyH_take (i := 20) (oi := _) (v := ?_) rfl (by kernel_rfl) (by kernel_rfl) (by kernel_rfl) (fun _ _ _ h => h) (Or.inl ⟨by rfl, ?_⟩) hHeld ?_
          rotate_left 1
          · intro w hSw
            (try dsimp only at hSw)
            skip
            go_simp <;> with_reducible rfl
          (try simp only [Act.put, List.setIfInBounds_toArray, List.set_cons_zero, List.set_cons_succ])
          refine wpAnyH_take (i := 21) (oi := _) (v := ?_) rfl (by kernel_rfl) (by kernel_rfl) (by kernel_rfl) (fun _ _ _ h => h) (Or.inl ⟨by rfl, ?_⟩) hHeld ?_
          rotate_left 1
          · intro w hSw
            (try dsimp only at hSw)
            skip
            go_simp <;> with_reducible rfl
          (try simp only [Act.put, List.setIfInBounds_toArray, List.set_cons_zero, List.set_cons_succ])
          refine wpAnyH_ready (rs := [6]) (by kernel_rfl) (by simp) ?_
          refine (AllReadyH.cons (o := _) rfl (fun K hK => ?_) AllReadyH.nil)
          · go_simp
            refine (H6.out _ _ HBX.out).mono ?_
            rintro e w6 ⟨rfl, hb6, hg6⟩
            have HG := Lib.hid (Go.Lib.grownBy_trans HG.out hg6)
            have HBX := Lib.hid hb6
            clear hb6 hg6
            go_wp2_with fail
            refine hK.out _ _ ?_ (fun hHeld => ?_)
            · exact ⟨HBX.out.at 0 _ rfl, HBX.out.at 1 _ rfl, HBX.out.at 2 _ rfl, HBX.out.at 3 _ rfl⟩
            clear hK K
            (try simp only [Act.put, List.setIfInBounds_toArray, List.set_cons_zero, List.set_cons_succ])
            refine wpAnyH_take (i := 7) (oi := _) (v := ?_) rfl (by kernel_rfl) (by kernel_rfl) (by kernel_rfl) (fun _ _ _ h => h) (Or.inl ⟨by rfl, ?_⟩) hHeld ?_
            rotate_left 1
            · intro w hSw
              (try dsimp only at hSw)
              skip
              go_simp <;> with_reducible rfl
            (try simp only [Act.put, List.setIfInBounds_toArray, List.set_cons_zero, List.set_cons_succ])
            refine wpAnyH_ready (rs := [8]) (by kernel_rfl) (by simp) ?_
            refine (AllReadyH.cons (o := _) rfl (fun K hK => ?_) AllReadyH.nil)
            · go_simp
              refine (H8.out _ _ HBX.out).mono ?_
              rintro e w8 ⟨rfl, hb8, hg8⟩
              have HG := Lib.hid (Go.Lib.grownBy_trans HG.out hg8)
              have HBX := Lib.hid hb8
              clear hb8 hg8
              go_wp2_with fail
              refine hK.out _ _ ?_ (fun hHeld => ?_)
              · exact ⟨HBX.out.at 0 _ rfl, HBX.out.at 1 _ rfl, HBX.out.at 2 _ rfl, HBX.out.at 3 _ rfl⟩
              clear hK K
              (try simp only [Act.put, List.setIfInBounds_toArray, List.set_cons_zero, List.set_cons_succ])
              refine wpAnyH_ready (rs := [15]) (by kernel_rfl) (by simp) ?_
              refine (AllReadyH.cons (o := _) rfl (fun K hK => ?_) AllReadyH.nil)
              · go_simp
                refine (H15.out _ _ HBX.out).mono ?_
                rintro e w15 ⟨rfl, hb15, hg15⟩
                have HG := Lib.hid (Go.Lib.grownBy_trans HG.out hg15)
                have HBX := Lib.hid hb15
                clear hb15 hg15
                go_wp2_with fail
                refine hK.out _ _ ?_ (fun hHeld => ?_)
                · exact ⟨HBX.out.at 0 _ rfl, HBX.out.at 1 _ rfl, HBX.out.at 2 _ rfl, HBX.out.at 3 _ rfl⟩
                clear hK K
                (try simp only [Act.put, List.setIfInBounds_toArray, List.set_cons_zero, List.set_cons_succ])
                refine wpAnyH_take (i := 16) (oi := _) (v := ?_) rfl (by kernel_rfl) (by kernel_rfl) (by kernel_rfl) (fun _ _ _ h => h) (Or.inl ⟨by rfl, ?_⟩) hHeld ?_
                rotate_left 1
                · intro w hSw
                  (try dsimp only at hSw)
                  skip
                  go_simp <;> with_reducible rfl
                (try simp only [Act.put, List.setIfInBounds_toArray, List.set_cons_zero, List.set_cons_succ])
                refine wpAnyH_ready (rs := [17]) (by kernel_rfl) (by simp) ?_
                refine (AllReadyH.cons (o := _) rfl (fun K hK => ?_) AllReadyH.nil)
                · go_simp
                  refine (H17.out _ _ HBX.out).mono ?_
                  rintro e w17 ⟨rfl, hb17, hg17⟩
                  have HG := Lib.hid (Go.Lib.grownBy_trans HG.out hg17)
                  have HBX := Lib.hid hb17
                  clear hb17 hg17
                  go_wp2_with fail
                  refine hK.out _ _ ?_ (fun hHeld => ?_)
                  · exact ⟨HBX.out.at 0 _ rfl, HBX.out.at 1 _ rfl, HBX.out.at 2 _ rfl, HBX.out.at 3 _ rfl⟩
                  clear hK K
                  (try simp only [Act.put, List.setIfInBounds_toArray, List.set_cons_zero, List.set_cons_succ])
                  refine wpAnyH_done (by kernel_rfl) ?_ _
                  change wpList _ _ _ _ _ _
                  go_wp2_with fail
                  refine (HSET.out _ _ HBX.out).mono ?_
                  rintro e w22 ⟨rfl, hb22, hg22⟩
                  have HD9 := Lib.hid (HD0.out.grow (Go.Lib.grownBy_trans HG.out hg22) hb22)
                  clear hb22 hg22
                  go_wp2_with fail
                  go_meet
                  exact HCT.out _ _ _ (by unfold S4.tkB; cases fitI s.q s.c <;> cases fitI s.q s.d <;> cases fitI base (s.a - mulV s.q s.c) <;> cases fitI base (s.b - mulV s.q s.d) <;> rfl) HD9.out
        case rest =>
          clear HD0 HD3 H6 H8 H15 H17 HSET HCT
          have HF := Lib.hid hcut
          clear hcut
          cases fl
          · have u4 := HF.out.bs.at 4 _ rfl
            obtain ⟨s', hs'⟩ : ∃ s', s.tk base = some s' := by
              have h := HFL.out
              cases e : s.tk base with
              | none => rw [e] at h; cases h
              | some x => exact ⟨x, rfl⟩
            have HFS := Lib.hid hs'
            have hN := (tk_flag s base).2 s' hs'
            rw [hN] at HF
            clear hN hs'
            go_wp2
            go_roundw
            case rel => exact ⟨s', k, out ++ [s.q], rfl, by have := HNC.out; simp; omega, ⟨(HS.out.1.tk HK0.out HFS.out).1, HS.out.2.tk1 HKN.out HNC.out HFS.out⟩, HF.out⟩
            case measure =>
              have hl : out.length + 1 = (out ++ [s.q]).length := by simp
              rw [hl, muW_eq HF.out.bs, muW_eq HD.out.bs]
              exact mu_tk HS.out.1 HK0.out HFS.out HNC.out
          · have u4 := HF.out.bs.at 4 _ rfl
            have HRR : Hid (R = ([], 0, 5)) := HS.out.2.tk0 HKN.out HNC.out (by
              have h := HFL.out
              cases e : s.tk base with
              | none => rfl
              | some x => rw [e] at h; cases h)
            go_wp2
            refine bodyPost_ret (v := .tuple #[.slice none 0 0, .int .i64 0, .int .i64 5]) (by simp [results, Tryz.results25, go_sem]; done) rfl ?_
            rw [HRR.out]
            exact RetDg.nil_ HF.out.below
end Go.Proofs.YtjgafjbccfjojaaGreat
