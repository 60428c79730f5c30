/- Parts of the proof, merged: DigRW DigTopW ConcatW. No condition but those that each theorem names. -/
import Derived.Test.YtjgafjbccfjojaaGreatMgAD
import Derived.Test.YtjgafjbccfjojaaGreatMgAE
import Derived.Test.YtjgafjbccfjojaaGreatMgAG
import Derived.Test.YtjgafjbccfjojaaGreatMgAB
import Derived.Lib.AppendZerosOnto
import Derived.Lib.AppendZeros
namespace Go.Proofs.YtjgafjbccfjojaaGreat
open Go.RowKit Go.Sort
noncomputable def muX (count g : Nat) (v : Value) (wr : World) : Nat := muW count g v (celV ⟨g, 4, none⟩ wr) wr
theorem muX_eq {count g k c n : Nat} {A : Option Addr} {s : S4} {out : List Int} {ok : Bool} {wr : World} (h : BoxV g (sC s (k : Int) ok) wr) (hn : n = out.length) : muX count g (.slice A n c) wr = muS count s k out := by
  subst hn
  unfold muX
  rw [celV_eq (h.at 4 _ rfl)]
  exact muW_eq h
/-- What holds in the reference's run: the state's box, the row. -/
structure DgS (w : World) (s : S4) (k : Int) (ok : Bool) (out : List Int) (v : Value) (wr : World) : Prop where
  bs : BoxV w.heap.size (sC s k ok) wr
  own : wr.ownsRow (w.heap.size + 1) 2 1 v out.length (out.map (Value.int .i64))
  below : Below w.heap.size w wr
  lt : w.heap.size + 1 ≤ wr.heap.size
section
variable {w : World} {s s' : S4} {k k' : Int} {f f' : Bool} {out : List Int} {v : Value} {wr w2 : World}
theorem DgS.next (h : DgS w s k f out v wr) (hb : Below wr.heap.size wr w2) : DgS w s k f out v w2 :=
  ⟨h.bs.next hb, own_below h.own hb, ext_trans h.below hb, Nat.le_trans h.lt hb.size⟩
theorem DgS.grow (h : DgS w s k f out v wr) (hg : wr.grownBy w2 (some w.heap.size)) (hb : BoxV w.heap.size (sC s' k' f') w2) : DgS w s' k' f' out v w2 :=
  ⟨hb, h.own.kept hg (.inr fun e => by have := (h.own.lt _ e).1; omega), h.below.grown hg h.below.size (fun k hk => by injection hk with hk; omega), Nat.le_trans h.lt hg.size⟩
theorem DgS.push (h : DgS w s k f out v wr) {a : Int} (v' : Value) (w3 : World) {o : Obj} (hown3 : w3.ownsRow (w.heap.size + 1) 2 1 v' (out.length + 1) (out.map (Value.int .i64) ++ [.int .i64 a])) (hg : (wr.alloc o).grownBy w3 v.ownBlock) : DgS w s k f (out ++ [a]) v' w3 := by
  have hf : ∀ k, some k = v.ownBlock → w.heap.size + 1 ≤ k := fun k hk => (h.own.lt k hk.symm).1
  refine ⟨(h.bs.alloc o).grown hg (fun e => by have := hf _ e.symm; omega), by simpa using hown3, below_grown (ext_alloc h.below o) (h.own.alloc o) (by omega) hg, ?_⟩
  have := hg.size
  have := h.lt
  simp at *
  omega
theorem DgS.ret {k : Nat} (h : DgS w s k f out v wr) : RetDg w (out, k, 0) (.returned (.tuple #[v, .int .i64 (k : Int), .int .i64 0])) wr := by
  obtain ⟨A, c, e, hw, h1, h2⟩ := own_fullD h.own
  rw [e]
  exact ⟨A, c, rfl, hw.more (by omega), ⟨h1, h2⟩, h.below⟩
end
set_option maxRecDepth 100000 in
set_option maxHeartbeats 8000000 in
theorem l16Run_any (so : So) (gx : Nat) (H P G : Option Addr) (ch cp cg : Nat) (base : Int) (count : Nat) (R : List Int × Nat × Int) (w : World) (hr : RdSo w w.heap.size H P G so) (ha : SoAt w gx H P G ch cp cg so) (hs : soB so = true) (b1 : 2 ≤ base) (b2 : base ≤ 36) (hc : count ≤ 30) (hR : DgR (tmS so) base count ⟨1, 0, 0, 1⟩ 0 [] R) :
    Calls Tryz.prog 28 #[.pointer (some ⟨gx, 0, none⟩), .int .i64 base, .int .i64 (count : Int)] w (RetDg w R) := by
  obtain ⟨i0, hi, hz0, hz1, hz2⟩ := info_parts info64
  have HI := Lib.hid hi
  clear hi
  have HR := Lib.hid hR
  have hgx : gx < w.heap.size := World.block_lt_of_cell? w _ ha.c0
  have HTM : Hid (∀ (k : Nat) (W : World), Below w.heap.size w W → k ≤ 1000 → Calls Tryz.prog 62 #[.pointer (some ⟨gx, 0, none⟩), .int .i64 (k : Int)] W fun e w' => e = .returned (.tuple #[.int .i64 ((tmS so k).getD 0), .bool (tmS so k).isSome]) ∧ Below W.heap.size W w') := fun k W hb hk => l15Term_any so gx H P G ch cp cg k W (hr.next hb) (ha.below hb hgx) (soB_tm hs) (by omega)
  have HTB : Hid (∀ (k : Nat) (t : Int), k ≤ 1000 → tmS so k = some t → -1000000000 ≤ t ∧ t ≤ 1000001000000 ∧ (0 < k → 1 ≤ t)) := fun k t hk h => tmS_bd hs (by omega) h
  have HT0 := Lib.hid (tmS_zero hs)
  clear hr hs hR ha hgx
  generalize hT : tmS so = T at *
  clear hT
  go_enter Tryz.func28, Tryz.ntmps28
  go_wp2_with fail
  go_loopw [10, 11] (fun v t wr => ∃ (s : S4) (k : Nat) (out : List Int) (b : Bool), t = .bool b ∧ Hid ((out.length ≤ count ∧ SInv s k ∧ DgR T base count s k out R ∧ (b = true → s.flat)) ∨ (out.length = count + 1 ∧ R = (out, k, 0))) ∧ Hid (DgS w s k true out v wr)) (fun v _ wr => muX count w.heap.size v wr)
  case atStart =>
    refine ⟨⟨1, 0, 0, 1⟩, 0, [], false, rfl, .inl ⟨by simp, ⟨rfl, .inl ⟨rfl, rfl⟩, by omega⟩, HR.out, fun h => by cases h⟩, ?_⟩
    refine ⟨(BoxV.new w #[.int .i64 1, .int .i64 0, .int .i64 0, .int .i64 1, .int .i64 0, .bool true] _).alloc _, ?_, ext_alloc (ext1 _ _) _, by simp⟩
    have h := World.ownsRow_lit (base := w.heap.size + 1) (e := 2) (size := 1) (w.alloc (.cells #[.int .i64 1, .int .i64 0, .int .i64 0, .int .i64 1, .int .i64 0, .bool true] 89)) #[] 0 (by simp) (by simp) rfl
    simpa using h
  case round =>
    obtain ⟨s, k, out, b, rfl, HS, HD⟩ := hrel
    obtain ⟨A, ca, rfl⟩ := own_slice HD.out.own
    clear HR
    have x4 := HD.out.bs.at 4 _ rfl
    have x5 := HD.out.bs.at 5 _ rfl
    rcases HS.out with ⟨ho, hinv, hrun, hfl⟩ | ⟨ho, hR⟩
    · clear HS
      have hkle := hinv.kle
      have d1 : decide ((out.length : Int) ≤ (count : Int)) = true := by simp; omega
      have d1n : decide (out.length ≤ count) = true := by simp; omega
      obtain ⟨⟨a1, a2⟩, ⟨s1, s2⟩, ⟨c1, c2⟩, ⟨dd1, dd2⟩⟩ := S4.low_true.1 hinv.low
      obtain ⟨c0, d0⟩ : 0 ≤ s.c ∧ 0 ≤ s.d := by
        rcases hinv.pos with ⟨_, rfl⟩ | ⟨_, h1, h2⟩
        · exact ⟨by decide, by decide⟩
        · omega
      have HK : Hid (∀ (f : Bool) (W : World), BoxV w.heap.size (sC s k f) W → Calls Tryz.prog 60 #[.pointer (some ⟨w.heap.size, 0, none⟩)] W fun e w' => e = .returned (.tuple #[.int .i64 s.q, .bool s.kn]) ∧ Below W.heap.size W w') := fun f W h => know_any w.heap.size s k f W h hinv.low c0 d0
      have HI0 := Lib.hid hinv
      have HR0 := Lib.hid hrun
      have HFL := Lib.hid hfl
      clear hrun hfl hinv
      cases hkn : (decide (0 < k) && s.kn)
      · have HKN := Lib.hid hkn
        obtain rfl : b = false := by
          cases b
          · rfl
          · exact absurd (HFL.out rfl) (not_flat HI0.out hkn)
        have hways : ((decide ((0 : Int) < (k : Int)) = false ∧ decide (0 < k) = false) ∨ ((decide ((0 : Int) < (k : Int)) = true ∧ decide (0 < k) = true) ∧ s.kn = false)) := by
          rcases Nat.eq_zero_or_pos k with e | e
          · left; exact ⟨by simp; omega, by simp; omega⟩
          · right
            refine ⟨⟨by simp; omega, by simp; omega⟩, ?_⟩
            simpa [e] using hkn
        clear hkn
        cases hTk : T k with
        | none =>
          have HTN := Lib.hid hTk
          have HK0 : Hid (0 < k) := by
            rcases Nat.eq_zero_or_pos k with e | e
            · subst e; exact absurd hTk HT0.out
            · exact e
          have HTK : Hid (∀ W : World, Below w.heap.size w W → Calls Tryz.prog 62 #[.pointer (some ⟨gx, 0, none⟩), .int .i64 (k : Int)] W fun e w' => e = .returned (.tuple #[.int .i64 0, .bool false]) ∧ Below W.heap.size W w') := fun W hb => by
            have h := HTM.out k W hb hkle
            rwa [hTk] at h
          have HEND : Hid (∀ (V : World), BoxV w.heap.size (sC s k true) V → Calls Tryz.prog 64 #[.pointer (some ⟨w.heap.size, 0, none⟩)] V fun e w' => e = .returned (.tuple #[]) ∧ V.grownBy w' (some w.heap.size) ∧ BoxV w.heap.size (sC s.enS.nrm k true) w') := fun V h => by
            have hc1 : 1 ≤ s.c := by
              rcases HI0.out.pos with ⟨e, _⟩ | ⟨_, h, _⟩
              · have := HK0.out; omega
              · exact h
            exact end_any w.heap.size s k V h HI0.out.low hc1
          clear hTk
          rcases hways with ⟨h1, h1n⟩ | ⟨⟨h1, h1n⟩, h2⟩
          · skip
            go_wp2_with fail
            refine (HK.out _ _ HD.out.bs).mono ?_
            rintro e w2 ⟨rfl, hb2⟩
            have HE := Lib.hid (HD.out.next hb2)
            clear hb2 x4 x5
            have z4 := HE.out.bs.at 4 _ rfl
            have z5 := HE.out.bs.at 5 _ rfl
            go_wp2_with (first | (go_at_call 62; (with_reducible refine (HTK.out _ HE.out.below).mono ?_); rintro e w3 ⟨rfl, hb3⟩; have HE2 := Lib.hid (HE.out.next hb3); clear hb3 z4 z5; have z4 := HE2.out.bs.at 4 _ rfl; have z5 := HE2.out.bs.at 5 _ rfl) | (go_at_call 64; (with_reducible refine (HEND.out _ HE2.out.bs).mono ?_); rintro e w4 ⟨rfl, hg4, hb4⟩; have HF := Lib.hid (HE2.out.grow hg4 hb4); clear hg4 hb4 z4 z5; have z5 := HF.out.bs.at 5 _ rfl))
            go_roundw
            case rel => exact ⟨s.enS.nrm, k, out, true, rfl, .inl ⟨ho, (HI0.out.en HK0.out).1, HR0.out.en HKN.out HTN.out, fun _ => (HI0.out.en HK0.out).2⟩, HF.out⟩
            case measure =>
              rw [muX_eq HF.out.bs rfl, muX_eq HD.out.bs rfl]
              exact mu_en HI0.out HK0.out HKN.out
          · rw [h2] at HK
            clear h2
            go_wp2_with fail
            refine (HK.out _ _ HD.out.bs).mono ?_
            rintro e w2 ⟨rfl, hb2⟩
            have HE := Lib.hid (HD.out.next hb2)
            clear hb2 x4 x5
            have z4 := HE.out.bs.at 4 _ rfl
            have z5 := HE.out.bs.at 5 _ rfl
            go_wp2_with (first | (go_at_call 62; (with_reducible refine (HTK.out _ HE.out.below).mono ?_); rintro e w3 ⟨rfl, hb3⟩; have HE2 := Lib.hid (HE.out.next hb3); clear hb3 z4 z5; have z4 := HE2.out.bs.at 4 _ rfl; have z5 := HE2.out.bs.at 5 _ rfl) | (go_at_call 64; (with_reducible refine (HEND.out _ HE2.out.bs).mono ?_); rintro e w4 ⟨rfl, hg4, hb4⟩; have HF := Lib.hid (HE2.out.grow hg4 hb4); clear hg4 hb4 z4 z5; have z5 := HF.out.bs.at 5 _ rfl))
            go_roundw
            case rel => exact ⟨s.enS.nrm, k, out, true, rfl, .inl ⟨ho, (HI0.out.en HK0.out).1, HR0.out.en HKN.out HTN.out, fun _ => (HI0.out.en HK0.out).2⟩, HF.out⟩
            case measure =>
              rw [muX_eq HF.out.bs rfl, muX_eq HD.out.bs rfl]
              exact mu_en HI0.out HK0.out HKN.out
        | some t =>
          obtain ⟨t1, t2, t3⟩ := HTB.out k t hkle hTk
          have HTK : Hid (∀ W : World, Below w.heap.size w W → Calls Tryz.prog 62 #[.pointer (some ⟨gx, 0, none⟩), .int .i64 (k : Int)] W fun e w' => e = .returned (.tuple #[.int .i64 t, .bool true]) ∧ Below W.heap.size W w') := fun W hb => by
            have h := HTM.out k W hb hkle
            rwa [hTk] at h
          have HTS := Lib.hid hTk
          have HT3 := Lib.hid t3
          clear hTk t3
          by_cases hk : 1000 ≤ k
          · have e1 : decide ((1000 : Int) ≤ (k : Int)) = true := by simp; omega
            have HRR := Lib.hid (HR0.out.op HKN.out HTS.out hk)
            clear hk
            rcases hways with ⟨h1, h1n⟩ | ⟨⟨h1, h1n⟩, h2⟩
            · skip
              go_wp2_with fail
              refine (HK.out _ _ HD.out.bs).mono ?_
              rintro e w2 ⟨rfl, hb2⟩
              have HE := Lib.hid (HD.out.next hb2)
              clear hb2 x4 x5
              have z4 := HE.out.bs.at 4 _ rfl
              have z5 := HE.out.bs.at 5 _ rfl
              go_wp2_with (go_at_call 62; (with_reducible refine (HTK.out _ HE.out.below).mono ?_); rintro e w3 ⟨rfl, hb3⟩; have HE2 := Lib.hid (HE.out.next hb3); clear hb3 z4 z5; have z4 := HE2.out.bs.at 4 _ rfl; have z5 := HE2.out.bs.at 5 _ rfl)
              refine bodyPost_ret (v := .tuple #[.slice none 0 0, .int .i64 0, .int .i64 10]) (by simp [results, Tryz.results28, go_sem]; done) rfl ?_
              rw [HRR.out]
              exact RetDg.nil_ HE2.out.below
            · rw [h2] at HK
              clear h2
              go_wp2_with fail
              refine (HK.out _ _ HD.out.bs).mono ?_
              rintro e w2 ⟨rfl, hb2⟩
              have HE := Lib.hid (HD.out.next hb2)
              clear hb2 x4 x5
              have z4 := HE.out.bs.at 4 _ rfl
              have z5 := HE.out.bs.at 5 _ rfl
              go_wp2_with (go_at_call 62; (with_reducible refine (HTK.out _ HE.out.below).mono ?_); rintro e w3 ⟨rfl, hb3⟩; have HE2 := Lib.hid (HE.out.next hb3); clear hb3 z4 z5; have z4 := HE2.out.bs.at 4 _ rfl; have z5 := HE2.out.bs.at 5 _ rfl)
              refine bodyPost_ret (v := .tuple #[.slice none 0 0, .int .i64 0, .int .i64 10]) (by simp [results, Tryz.results28, go_sem]; done) rfl ?_
              rw [HRR.out]
              exact RetDg.nil_ HE2.out.below
          · have e1 : decide ((1000 : Int) ≤ (k : Int)) = false := by simp; omega
            have HNK := Lib.hid hk
            have hcf : 1 ≤ (s.fdS t).c := by
              rcases HI0.out.pos with ⟨_, rfl⟩ | ⟨h0, h2, h3⟩
              · unfold S4.fdS; simp
              · unfold S4.fdS
                simp only
                have := Int.mul_le_mul h2 (HT3.out h0) (by omega) (by omega)
                omega
            have HFEED0 : Hid (∀ (V : World), BoxV w.heap.size (sC s k true) V → Calls Tryz.prog 63 #[.pointer (some ⟨w.heap.size, 0, none⟩), .int .i64 t] V fun e w' => e = .returned (.tuple #[]) ∧ StepTo w.heap.size (s.fd t) ((k + 1 : Nat) : Int) V w') := fun V h => by
              have h := feed_any w.heap.size s k t V h HI0.out.low hcf (by omega) (by omega) (by omega) (by omega)
              rwa [show ((k + 1 : Nat) : Int) = (k : Int) + 1 by omega]
            clear hk hcf
            cases hfd : s.fd t with
            | none =>
              rw [hfd] at HFEED0
              have HRR := Lib.hid (HR0.out.fd0 HKN.out HTS.out HNK.out hfd)
              clear hfd
              have HFEED : Hid (∀ (V : World), BoxV w.heap.size (sC s k true) V → Calls Tryz.prog 63 #[.pointer (some ⟨w.heap.size, 0, none⟩), .int .i64 t] V fun e w' => e = .returned (.tuple #[]) ∧ V.grownBy w' (some w.heap.size) ∧ ∃ s' f', BoxV w.heap.size (sC s' f' false) w') := HFEED0.out
              clear HFEED0
              rcases hways with ⟨h1, h1n⟩ | ⟨⟨h1, h1n⟩, h2⟩
              · skip
                go_wp2_with fail
                refine (HK.out _ _ HD.out.bs).mono ?_
                rintro e w2 ⟨rfl, hb2⟩
                have HE := Lib.hid (HD.out.next hb2)
                clear hb2 x4 x5
                have z4 := HE.out.bs.at 4 _ rfl
                have z5 := HE.out.bs.at 5 _ rfl
                go_wp2_with (first | (go_at_call 62; (with_reducible refine (HTK.out _ HE.out.below).mono ?_); rintro e w3 ⟨rfl, hb3⟩; have HE2 := Lib.hid (HE.out.next hb3); clear hb3 z4 z5; have z4 := HE2.out.bs.at 4 _ rfl; have z5 := HE2.out.bs.at 5 _ rfl) | (go_at_call 63; (with_reducible refine (HFEED.out _ HE2.out.bs).mono ?_); rintro e w4 ⟨rfl, hg4, s', f', hb4⟩; (have HF := Lib.hid (HE2.out.grow hg4 hb4)); clear hg4 hb4 z4 z5; have z5 := HF.out.bs.at 5 _ rfl))
                refine bodyPost_ret (v := .tuple #[.slice none 0 0, .int .i64 0, .int .i64 5]) (by simp [results, Tryz.results28, go_sem]; done) rfl ?_
                rw [HRR.out]
                exact RetDg.nil_ HF.out.below
              · rw [h2] at HK
                clear h2
                go_wp2_with fail
                refine (HK.out _ _ HD.out.bs).mono ?_
                rintro e w2 ⟨rfl, hb2⟩
                have HE := Lib.hid (HD.out.next hb2)
                clear hb2 x4 x5
                have z4 := HE.out.bs.at 4 _ rfl
                have z5 := HE.out.bs.at 5 _ rfl
                go_wp2_with (first | (go_at_call 62; (with_reducible refine (HTK.out _ HE.out.below).mono ?_); rintro e w3 ⟨rfl, hb3⟩; have HE2 := Lib.hid (HE.out.next hb3); clear hb3 z4 z5; have z4 := HE2.out.bs.at 4 _ rfl; have z5 := HE2.out.bs.at 5 _ rfl) | (go_at_call 63; (with_reducible refine (HFEED.out _ HE2.out.bs).mono ?_); rintro e w4 ⟨rfl, hg4, s', f', hb4⟩; (have HF := Lib.hid (HE2.out.grow hg4 hb4)); clear hg4 hb4 z4 z5; have z5 := HF.out.bs.at 5 _ rfl))
                refine bodyPost_ret (v := .tuple #[.slice none 0 0, .int .i64 0, .int .i64 5]) (by simp [results, Tryz.results28, go_sem]; done) rfl ?_
                rw [HRR.out]
                exact RetDg.nil_ HF.out.below
            | some s' =>
              rw [hfd] at HFEED0
              have HFS := Lib.hid hfd
              clear hfd
              have HFEED : Hid (∀ (V : World), BoxV w.heap.size (sC s k true) V → Calls Tryz.prog 63 #[.pointer (some ⟨w.heap.size, 0, none⟩), .int .i64 t] V fun e w' => e = .returned (.tuple #[]) ∧ V.grownBy w' (some w.heap.size) ∧ BoxV w.heap.size (sC s' ((k + 1 : Nat) : Int) true) w') := HFEED0.out
              clear HFEED0
              rcases hways with ⟨h1, h1n⟩ | ⟨⟨h1, h1n⟩, h2⟩
              · skip
                go_wp2_with fail
                refine (HK.out _ _ HD.out.bs).mono ?_
                rintro e w2 ⟨rfl, hb2⟩
                have HE := Lib.hid (HD.out.next hb2)
                clear hb2 x4 x5
                have z4 := HE.out.bs.at 4 _ rfl
                have z5 := HE.out.bs.at 5 _ rfl
                go_wp2_with (first | (go_at_call 62; (with_reducible refine (HTK.out _ HE.out.below).mono ?_); rintro e w3 ⟨rfl, hb3⟩; have HE2 := Lib.hid (HE.out.next hb3); clear hb3 z4 z5; have z4 := HE2.out.bs.at 4 _ rfl; have z5 := HE2.out.bs.at 5 _ rfl) | (go_at_call 63; (with_reducible refine (HFEED.out _ HE2.out.bs).mono ?_); rintro e w4 ⟨rfl, hg4, hb4⟩; (have HF := Lib.hid (HE2.out.grow hg4 hb4)); clear hg4 hb4 z4 z5; have z5 := HF.out.bs.at 5 _ rfl))
                go_roundw
                case rel => exact ⟨s', k + 1, out, false, rfl, .inl ⟨ho, HI0.out.fd (by have := HNK.out; omega) HT3.out HFS.out, HR0.out.fd1 HKN.out HTS.out HNK.out HFS.out, fun h => by cases h⟩, HF.out⟩
                case measure =>
                  rw [muX_eq HF.out.bs rfl, muX_eq HD.out.bs rfl]
                  exact mu_fd HI0.out HNK.out HKN.out
              · rw [h2] at HK
                clear h2
                go_wp2_with fail
                refine (HK.out _ _ HD.out.bs).mono ?_
                rintro e w2 ⟨rfl, hb2⟩
                have HE := Lib.hid (HD.out.next hb2)
                clear hb2 x4 x5
                have z4 := HE.out.bs.at 4 _ rfl
                have z5 := HE.out.bs.at 5 _ rfl
                go_wp2_with (first | (go_at_call 62; (with_reducible refine (HTK.out _ HE.out.below).mono ?_); rintro e w3 ⟨rfl, hb3⟩; have HE2 := Lib.hid (HE.out.next hb3); clear hb3 z4 z5; have z4 := HE2.out.bs.at 4 _ rfl; have z5 := HE2.out.bs.at 5 _ rfl) | (go_at_call 63; (with_reducible refine (HFEED.out _ HE2.out.bs).mono ?_); rintro e w4 ⟨rfl, hg4, hb4⟩; (have HF := Lib.hid (HE2.out.grow hg4 hb4)); clear hg4 hb4 z4 z5; have z5 := HF.out.bs.at 5 _ rfl))
                go_roundw
                case rel => exact ⟨s', k + 1, out, false, rfl, .inl ⟨ho, HI0.out.fd (by have := HNK.out; omega) HT3.out HFS.out, HR0.out.fd1 HKN.out HTS.out HNK.out HFS.out, fun h => by cases h⟩, HF.out⟩
                case measure =>
                  rw [muX_eq HF.out.bs rfl, muX_eq HD.out.bs rfl]
                  exact mu_fd HI0.out HNK.out HKN.out
      · have HKN := Lib.hid hkn
        obtain ⟨k0, kn1⟩ : 0 < k ∧ s.kn = true := by simpa using hkn
        have h1 : decide ((0 : Int) < (k : Int)) = true := by simp; omega
        have h1n : decide (0 < k) = true := by simp; omega
        have c1' : 1 ≤ s.c := by
          rcases HI0.out.pos with ⟨e, _⟩ | ⟨_, h, _⟩
          · omega
          · exact h
        rw [kn1] at HK
        have HK0 := Lib.hid k0
        clear hkn kn1 k0
        by_cases hcnt : count < out.length + 1
        · have e1 : decide (((out.length + 1 : Nat) : Int) ≤ (count : Int)) = false := by simp; omega
          have e2 : decide (out.length + 1 ≤ count) = false := by simp; omega
          have e3 : decide ((out.length : Int) + 1 ≤ (count : Int)) = false := by simp; omega
          have HRR := Lib.hid (HR0.out.done HKN.out hcnt)
          have HNC := Lib.hid hcnt
          clear hcnt
          go_wp2_with fail
          refine (HK.out _ _ HD.out.bs).mono ?_
          rintro e w2 ⟨rfl, hb2⟩
          have HE := Lib.hid (HD.out.next hb2)
          clear hb2 x4 x5
          have z4 := HE.out.bs.at 4 _ rfl
          have z5 := HE.out.bs.at 5 _ rfl
          have hown := HE.out.own
          have hbz := HE.out.lt
          go_wp2_with (at_builtin; refine wpList_append_own _ rfl _ _ 24 rfl (w.heap.size + 1) 2 i0 (.int .i64 0) 1 8 Tryz.underlying24 HI.out hz0 hz1 hz2 rfl (by decide) _ _ _ rfl (hown.alloc _) ⟨w2.heap.size, 0, none⟩ 1 1 [.int .i64 s.q] rfl rfl ?c1 ?c2 ?c3 ?c4 ?c5 ?_)
          case c1 => exact cell_one_new _ _ _
          case c2 => simp [Value.oneCell']
          case c3 => unfold maxLen; omega
          case c4 => omega
          case c5 => simp; omega
          intro v' w3 hown3 hgrow _
          have HD3 := Lib.hid (HE.out.push _ _ hown3 hgrow)
          obtain ⟨A3, c3, rfl⟩ := own_slice hown3
          clear hown3 hgrow hown z4 z5
          have z4 := HD3.out.bs.at 4 _ rfl
          have z5 := HD3.out.bs.at 5 _ rfl
          go_wp2_with fail
          go_roundw
          case rel => exact ⟨s, k, out ++ [s.q], b, rfl, .inr ⟨by have := HNC.out; simp; omega, HRR.out⟩, HD3.out⟩
          case measure =>
            rw [muX_eq (out := out ++ [s.q]) HD3.out.bs (by simp), muX_eq HD.out.bs rfl]
            unfold muS
            have := HNC.out
            simp only [List.length_append, List.length_cons, List.length_nil]
            omega
        · have e1 : decide (((out.length + 1 : Nat) : Int) ≤ (count : Int)) = true := by simp; omega
          have e2 : decide (out.length + 1 ≤ count) = true := by simp; omega
          have e3 : decide ((out.length : Int) + 1 ≤ (count : Int)) = true := by simp; omega
          have HNC := Lib.hid hcnt
          clear hcnt
          have HTK0 : Hid (∀ (V : World), BoxV w.heap.size (sC s k true) V → Calls Tryz.prog 61 #[.pointer (some ⟨w.heap.size, 0, none⟩), .int .i64 s.q, .int .i64 base] V fun e w' => e = .returned (.tuple #[]) ∧ StepTo w.heap.size (s.tk base) (k : Int) V w') := fun V h => take_any w.heap.size s k base V h HI0.out.low c1' b1 b2
          cases htk : s.tk base with
          | none =>
            rw [htk] at HTK0
            have HRR := Lib.hid (HR0.out.tk0 HKN.out HNC.out htk)
            clear htk
            have HTK : Hid (∀ (V : World), BoxV w.heap.size (sC s k true) V → Calls Tryz.prog 61 #[.pointer (some ⟨w.heap.size, 0, none⟩), .int .i64 s.q, .int .i64 base] V fun e w' => e = .returned (.tuple #[]) ∧ V.grownBy w' (some w.heap.size) ∧ ∃ s' f', BoxV w.heap.size (sC s' f' false) w') := HTK0.out
            clear HTK0
            go_wp2_with fail
            refine (HK.out _ _ HD.out.bs).mono ?_
            rintro e w2 ⟨rfl, hb2⟩
            have HE := Lib.hid (HD.out.next hb2)
            clear hb2 x4 x5
            have z4 := HE.out.bs.at 4 _ rfl
            have z5 := HE.out.bs.at 5 _ rfl
            have hown := HE.out.own
            have hbz := HE.out.lt
            go_wp2_with (at_builtin; refine wpList_append_own _ rfl _ _ 24 rfl (w.heap.size + 1) 2 i0 (.int .i64 0) 1 8 Tryz.underlying24 HI.out hz0 hz1 hz2 rfl (by decide) _ _ _ rfl (hown.alloc _) ⟨w2.heap.size, 0, none⟩ 1 1 [.int .i64 s.q] rfl rfl ?c1 ?c2 ?c3 ?c4 ?c5 ?_)
            case c1 => exact cell_one_new _ _ _
            case c2 => simp [Value.oneCell']
            case c3 => unfold maxLen; omega
            case c4 => omega
            case c5 => simp; omega
            intro v' w3 hown3 hgrow _
            have HD3 := Lib.hid (HE.out.push _ _ hown3 hgrow)
            obtain ⟨A3, c3, rfl⟩ := own_slice hown3
            clear hown3 hgrow hown z4 z5
            have z4 := HD3.out.bs.at 4 _ rfl
            have z5 := HD3.out.bs.at 5 _ rfl
            go_wp2_with (go_at_call 61; (with_reducible refine (HTK.out _ HD3.out.bs).mono ?_); rintro e w4 ⟨rfl, hg4, s', f', hb4⟩; have HF := Lib.hid (HD3.out.grow hg4 hb4); clear hg4 hb4 z4 z5; have z5 := HF.out.bs.at 5 _ rfl)
            refine bodyPost_ret (v := .tuple #[.slice none 0 0, .int .i64 0, .int .i64 5]) (by simp [results, Tryz.results28, go_sem]; done) rfl ?_
            rw [HRR.out]
            exact RetDg.nil_ HF.out.below
          | some s' =>
            rw [htk] at HTK0
            have HFS := Lib.hid htk
            clear htk
            have HTK : Hid (∀ (V : World), BoxV w.heap.size (sC s k true) V → Calls Tryz.prog 61 #[.pointer (some ⟨w.heap.size, 0, none⟩), .int .i64 s.q, .int .i64 base] V fun e w' => e = .returned (.tuple #[]) ∧ V.grownBy w' (some w.heap.size) ∧ BoxV w.heap.size (sC s' (k : Int) true) w') := HTK0.out
            clear HTK0
            go_wp2_with fail
            refine (HK.out _ _ HD.out.bs).mono ?_
            rintro e w2 ⟨rfl, hb2⟩
            have HE := Lib.hid (HD.out.next hb2)
            clear hb2 x4 x5
            have z4 := HE.out.bs.at 4 _ rfl
            have z5 := HE.out.bs.at 5 _ rfl
            have hown := HE.out.own
            have hbz := HE.out.lt
            go_wp2_with (at_builtin; refine wpList_append_own _ rfl _ _ 24 rfl (w.heap.size + 1) 2 i0 (.int .i64 0) 1 8 Tryz.underlying24 HI.out hz0 hz1 hz2 rfl (by decide) _ _ _ rfl (hown.alloc _) ⟨w2.heap.size, 0, none⟩ 1 1 [.int .i64 s.q] rfl rfl ?c1 ?c2 ?c3 ?c4 ?c5 ?_)
            case c1 => exact cell_one_new _ _ _
            case c2 => simp [Value.oneCell']
            case c3 => unfold maxLen; omega
            case c4 => omega
            case c5 => simp; omega
            intro v' w3 hown3 hgrow _
            have HD3 := Lib.hid (HE.out.push _ _ hown3 hgrow)
            obtain ⟨A3, c3, rfl⟩ := own_slice hown3
            clear hown3 hgrow hown z4 z5
            have z4 := HD3.out.bs.at 4 _ rfl
            have z5 := HD3.out.bs.at 5 _ rfl
            go_wp2_with (go_at_call 61; (with_reducible refine (HTK.out _ HD3.out.bs).mono ?_); rintro e w4 ⟨rfl, hg4, hb4⟩; have HF := Lib.hid (HD3.out.grow hg4 hb4); clear hg4 hb4 z4 z5; have z5 := HF.out.bs.at 5 _ rfl)
            go_roundw
            case rel => exact ⟨s', k, out ++ [s.q], b, rfl, .inl ⟨by have := HNC.out; simp; omega, (HI0.out.tk HK0.out HFS.out).1, HR0.out.tk1 HKN.out HNC.out HFS.out, fun h => (HI0.out.tk HK0.out HFS.out).2 (HFL.out h)⟩, HF.out⟩
            case measure =>
              rw [muX_eq (out := out ++ [s.q]) HF.out.bs (by simp), muX_eq HD.out.bs rfl]
              exact mu_tk HI0.out HK0.out HFS.out HNC.out
    · clear HS
      have d1 : decide ((out.length : Int) ≤ (count : Int)) = false := by simp; omega
      have d1n : decide (out.length ≤ count) = false := by simp; omega
      have HRR := Lib.hid hR
      clear hR
      go_wp2_with fail
      go_quiet (fail)
      go_wp2
      refine bodyPost_ret (v := .tuple #[.slice A out.length ca, .int .i64 (k : Int), .int .i64 0]) (by simp [results, Tryz.results28, go_sem]; done) rfl ?_
      rw [HRR.out]
      exact (HD.out.next (below_drewN (Below.refl _ _))).ret
end Go.Proofs.YtjgafjbccfjojaaGreat
namespace Go.Proofs.YtjgafjbccfjojaaGreat
open Go.RowKit Go.Sort
/-- The code of a source, a base and a number of digits. -/
def tdC (so : So) (base count : Int) : Int := if soB so = true then (if inR base 2 36 && inR count 0 30 then 0 else 2) else 1
theorem tdC_zero {so : So} {base count : Int} (h : tdC so base count = 0) : soB so = true ∧ inR base 2 36 = true ∧ inR count 0 30 = true := by
  unfold tdC at h
  split at h
  · rename_i h1
    split at h
    · rename_i h2
      rw [Bool.and_eq_true] at h2
      exact ⟨h1, h2⟩
    · omega
  · omega
theorem l16Code_any (so : So) (gx : Nat) (H P G : Option Addr) (ch cp cg : Nat) (base count : Int) (w : World) (hr : RdSo w w.heap.size H P G so) (ha : SoAt w gx H P G ch cp cg so) :
    Calls Tryz.prog 27 #[.pointer (some ⟨gx, 0, none⟩), .int .i64 base, .int .i64 count] w fun e w' => e = .returned (.int .i64 (tdC so base count)) ∧ Below w.heap.size w w' := by
  have HV := Lib.hid (l15Ok_any so gx H P G ch cp cg w hr ha)
  have HB := Lib.hid (l16Base_any base)
  have HC := Lib.hid (l00In_any count 0 30)
  have HE : Hid (tdC so base count = if soB so = true then (if inR base 2 36 && inR count 0 30 then 0 else 2) else 1) := rfl
  rw [HE.out]
  clear HE hr ha
  generalize soB so = v at *
  generalize inR base 2 36 = b1 at *
  generalize inR count 0 30 = b2 at *
  cases v <;> cases b1 <;> cases b2
  all_goals
    go_enter Tryz.func27, Tryz.ntmps27
    go_wp2_with (first | (go_at_call 59; (with_reducible refine HV.out.mono ?_); rintro e w1 ⟨rfl, hb1⟩) | (go_at_call 39; (with_reducible refine (HB.out _).mono ?_); rintro e w' ⟨rfl, rfl⟩) | (go_at_call 40; (with_reducible refine (HC.out _).mono ?_); rintro e w' ⟨rfl, rfl⟩))
    go_ret
    exact ⟨rfl, hb1⟩
set_option maxHeartbeats 1000000 in
theorem iTerms_bad (so : So) (H P G : Option Addr) (ch cp cg : Nat) (base count : Int) (w : World) (hr : RdSo w w.heap.size H P G so) (h0 : ¬ tdC so base count = 0) :
    Calls Tryz.prog 9 #[souV H so.hd.length ch P so.pd.length cp G so.gr.length cg, .int .i64 base, .int .i64 count] w fun e w' => e = .returned (.tuple #[.int .i64 0, .int .i64 (tdC so base count)]) ∧ Below w.heap.size w w' := by
  have HV : Hid (∀ W : World, Below w.heap.size w W → Calls Tryz.prog 22 #[souV H so.hd.length ch P so.pd.length cp G so.gr.length cg] W fun e w' => e = .returned (.bool (soB so)) ∧ Below W.heap.size W w') := fun W hb => ValidSource_any so H P G ch cp cg W (hr.next hb)
  have HB := Lib.hid (isBase_any base)
  have HC := Lib.hid (within_any count 0 30)
  have HE : Hid (tdC so base count = if soB so = true then (if inR base 2 36 && inR count 0 30 then 0 else 2) else 1) := rfl
  rw [HE.out] at h0 ⊢
  clear HE hr
  unfold souV at *
  generalize so.hd.length = nh at *
  generalize so.pd.length = np at *
  generalize so.gr.length = ng at *
  generalize soB so = v at *
  generalize inR base 2 36 = b1 at *
  generalize inR count 0 30 = b2 at *
  cases v <;> cases b1 <;> cases b2
  all_goals first
    | exact absurd rfl h0
    | (clear h0
       go_enter Tryz.func9, Tryz.ntmps9
       go_wp2_with (first | (go_at_call 22; (with_reducible refine (HV.out _ (ext1 _ _)).mono ?_); rintro e w1 ⟨rfl, hb1⟩) | (go_at_call 23; (with_reducible refine (HB.out _).mono ?_); rintro e w' ⟨rfl, rfl⟩) | (go_at_call 24; (with_reducible refine (HC.out _).mono ?_); rintro e w' ⟨rfl, rfl⟩))
       go_ret2
       exact ⟨rfl, ext_trans (ext1 _ _) hb1⟩)
set_option maxHeartbeats 1000000 in
theorem iTerms_good (so : So) (H P G : Option Addr) (ch cp cg : Nat) (base : Int) (count : Nat) (R : List Int × Nat × Int) (w : World) (hr : RdSo w w.heap.size H P G so) (h0 : tdC so base (count : Int) = 0) (hR : DgR (tmS so) base count ⟨1, 0, 0, 1⟩ 0 [] R) :
    Calls Tryz.prog 9 #[souV H so.hd.length ch P so.pd.length cp G so.gr.length cg, .int .i64 base, .int .i64 (count : Int)] w fun e w' => e = .returned (.tuple #[.int .i64 (R.2.1 : Int), .int .i64 R.2.2]) ∧ Below w.heap.size w w' := by
  obtain ⟨hs, hb, hc⟩ := tdC_zero h0
  obtain ⟨b1, b2⟩ := inR_true.1 hb
  obtain ⟨c1, c2⟩ := inR_true.1 hc
  have HV : Hid (∀ W : World, Below w.heap.size w W → Calls Tryz.prog 22 #[souV H so.hd.length ch P so.pd.length cp G so.gr.length cg] W fun e w' => e = .returned (.bool true) ∧ Below W.heap.size W w') := fun W hb => by
    have h := ValidSource_any so H P G ch cp cg W (hr.next hb)
    rwa [hs] at h
  have HB : Hid (∀ W : World, Calls Tryz.prog 23 #[.int .i64 base] W fun e w' => e = .returned (.bool true) ∧ W = w') := fun W => by
    have h := isBase_any base W
    rwa [hb] at h
  have HC : Hid (∀ W : World, Calls Tryz.prog 24 #[.int .i64 (count : Int), .int .i64 0, .int .i64 30] W fun e w' => e = .returned (.bool true) ∧ W = w') := fun W => by
    have h := within_any (count : Int) 0 30 W
    rwa [hc] at h
  have HD : Hid (∀ W : World, Below w.heap.size w W → Calls Tryz.prog 25 #[souV H so.hd.length ch P so.pd.length cp G so.gr.length cg, .int .i64 base, .int .i64 (count : Int)] W (RetDg W R)) := fun W h => digitsOf_any so H P G ch cp cg base count R W (hr.next h) hs b1 b2 (by omega) hR
  clear hr h0 hR hs hb hc
  unfold RetDg at HD
  generalize R.2.1 = m at *
  generalize R.2.2 = c at *
  unfold souV at *
  generalize so.hd.length = nh at *
  generalize so.pd.length = np at *
  generalize so.gr.length = ng at *
  go_enter Tryz.func9, Tryz.ntmps9
  go_wp2_with fail
  refine (HV.out _ (ext1 _ _)).mono ?_
  rintro e w1 ⟨rfl, hb1⟩
  obtain ⟨hc1, hf1⟩ := bcell hb1
  have hz1 : w.heap.size < w1.heap.size := by have := hb1.size; simp at this; omega
  have HE1 := Lib.hid (ext_trans (ext1 w (.cells #[.slice H nh ch, .slice P np cp, .slice G ng cg] 26)) hb1)
  go_wp2_with (first | (go_at_call 23; (with_reducible refine (HB.out _).mono ?_); rintro e w' ⟨rfl, rfl⟩) | (go_at_call 24; (with_reducible refine (HC.out _).mono ?_); rintro e w' ⟨rfl, rfl⟩) | (go_at_call 25; (with_reducible refine (HD.out _ HE1.out).mono ?_); rintro e w2 ⟨A2, c2, rfl, hw2, _, hb2⟩; have HE2 := Lib.hid (ext_trans HE1.out hb2)))
  go_ret2
  exact ⟨rfl, HE2.out⟩
set_option maxHeartbeats 1000000 in
theorem sTerms_bad (so : So) (H P G : Option Addr) (ch cp cg : Nat) (base count : Int) (w : World) (hr : RdSo w w.heap.size H P G so) (h0 : ¬ tdC so base count = 0) :
    Calls Tryz.prog 10 #[souV H so.hd.length ch P so.pd.length cp G so.gr.length cg, .int .i64 base, .int .i64 count] w fun e w' => e = .returned (.tuple #[.int .i64 0, .int .i64 (tdC so base count)]) ∧ Below w.heap.size w w' := by
  have HV := Lib.hid (l16Code_any so w.heap.size H P G ch cp cg base count _ (hr.next (ext1 w (.cells #[.slice H so.hd.length ch, .slice P so.pd.length cp, .slice G so.gr.length cg] 26))) (SoAt.of_box (BoxV.new w #[.slice H so.hd.length ch, .slice P so.pd.length cp, .slice G so.gr.length cg] 26)))
  have h1 : (tdC so base count != 0) = true := by simpa using h0
  clear hr h0
  generalize tdC so base count = c at *
  unfold souV at *
  generalize so.hd.length = nh at *
  generalize so.pd.length = np at *
  generalize so.gr.length = ng at *
  go_enter Tryz.func10, Tryz.ntmps10
  go_wp2_with fail
  refine HV.out.mono ?_
  rintro e w1 ⟨rfl, hb1⟩
  go_wp2
  go_ret2
  exact ⟨rfl, ext_trans (ext1 _ _) hb1⟩
set_option maxHeartbeats 1000000 in
theorem sTerms_good (so : So) (H P G : Option Addr) (ch cp cg : Nat) (base : Int) (count : Nat) (R : List Int × Nat × Int) (w : World) (hr : RdSo w w.heap.size H P G so) (h0 : tdC so base (count : Int) = 0) (hR : DgR (tmS so) base count ⟨1, 0, 0, 1⟩ 0 [] R) :
    Calls Tryz.prog 10 #[souV H so.hd.length ch P so.pd.length cp G so.gr.length cg, .int .i64 base, .int .i64 (count : Int)] w fun e w' => e = .returned (.tuple #[.int .i64 (R.2.1 : Int), .int .i64 R.2.2]) ∧ Below w.heap.size w w' := by
  obtain ⟨hs, hb, hc⟩ := tdC_zero h0
  obtain ⟨b1, b2⟩ := inR_true.1 hb
  obtain ⟨c1, c2⟩ := inR_true.1 hc
  have HA := Lib.hid (SoAt.of_box (BoxV.new w #[.slice H so.hd.length ch, .slice P so.pd.length cp, .slice G so.gr.length cg] 26))
  have HV := Lib.hid (l16Code_any so w.heap.size H P G ch cp cg base (count : Int) _ (hr.next (ext1 w (.cells #[.slice H so.hd.length ch, .slice P so.pd.length cp, .slice G so.gr.length cg] 26))) HA.out)
  rw [h0] at HV
  have HD : Hid (∀ W : World, Below (w.alloc (.cells #[.slice H so.hd.length ch, .slice P so.pd.length cp, .slice G so.gr.length cg] 26)).heap.size (w.alloc (.cells #[.slice H so.hd.length ch, .slice P so.pd.length cp, .slice G so.gr.length cg] 26)) W → Calls Tryz.prog 28 #[.pointer (some ⟨w.heap.size, 0, none⟩), .int .i64 base, .int .i64 (count : Int)] W (RetDg W R)) := fun W h => l16Run_any so w.heap.size H P G ch cp cg base count R W ((hr.next (ext1 _ _)).next h) (HA.out.below h (by simp)) hs b1 b2 (by omega) hR
  have HF : Hid ((R.2.2 = 0) ∨ (R.2.1 = 0 ∧ R.2.2 ≠ 0)) := by
    rcases hR.fin (by simp) with ⟨h, _⟩ | ⟨_, h1, h2⟩
    · exact .inl h
    · exact .inr ⟨h1, h2⟩
  clear hr h0 hR hs hb hc HA
  unfold RetDg at HD
  generalize R.2.1 = m at *
  generalize R.2.2 = c at *
  unfold souV at *
  generalize so.hd.length = nh at *
  generalize so.pd.length = np at *
  generalize so.gr.length = ng at *
  rcases HF.out with h1 | ⟨h1, h2⟩
  · subst h1
    clear HF
    go_enter Tryz.func10, Tryz.ntmps10
    go_wp2_with fail
    refine HV.out.mono ?_
    rintro e w1 ⟨rfl, hb1⟩
    go_wp2_with (go_at_call 28; (with_reducible refine (HD.out _ hb1).mono ?_); rintro e w2 ⟨A2, c2, rfl, hw2, _, hb2⟩)
    go_ret2
    exact ⟨rfl, ext_trans (ext_trans (ext1 _ _) hb1) hb2⟩
  · subst h1
    have h3 : (c != 0) = true := by simpa using h2
    clear HF h2
    go_enter Tryz.func10, Tryz.ntmps10
    go_wp2_with fail
    refine HV.out.mono ?_
    rintro e w1 ⟨rfl, hb1⟩
    go_wp2_with (go_at_call 28; (with_reducible refine (HD.out _ hb1).mono ?_); rintro e w2 ⟨A2, c2, rfl, hw2, _, hb2⟩)
    go_ret2
    exact ⟨rfl, ext_trans (ext_trans (ext1 _ _) hb1) hb2⟩
/-- Both sides return the same. -/
theorem terms_both (so : So) (base count : Int) : ∃ v c : Int, (∀ (H P G : Option Addr) (ch cp cg : Nat) (W : World), RdSo W W.heap.size H P G so → Calls Tryz.prog 9 #[souV H so.hd.length ch P so.pd.length cp G so.gr.length cg, .int .i64 base, .int .i64 count] W fun e w' => e = .returned (.tuple #[.int .i64 v, .int .i64 c]) ∧ Below W.heap.size W w') ∧
    ∀ (H P G : Option Addr) (ch cp cg : Nat) (W : World), RdSo W W.heap.size H P G so → Calls Tryz.prog 10 #[souV H so.hd.length ch P so.pd.length cp G so.gr.length cg, .int .i64 base, .int .i64 count] W fun e w' => e = .returned (.tuple #[.int .i64 v, .int .i64 c]) ∧ Below W.heap.size W w' := by
  by_cases h0 : tdC so base count = 0
  · obtain ⟨hs, hb, hc⟩ := tdC_zero h0
    obtain ⟨c1, c2⟩ := inR_true.1 hc
    obtain ⟨n, rfl⟩ : ∃ n : Nat, count = (n : Int) := ⟨count.toNat, by omega⟩
    obtain ⟨R, hR⟩ := dgR_ex (T := tmS so) (base := base) (count := n) (tmS_zero hs) (fun k t ht hk => by
      by_cases hk2 : k ≤ 1000000
      · exact (tmS_bd hs hk2 ht).2.2 hk
      · exact tmS_pos hs hk ht) (by omega)
    exact ⟨_, _, fun H P G ch cp cg W hr => iTerms_good so H P G ch cp cg base n R W hr h0 hR, fun H P G ch cp cg W hr => sTerms_good so H P G ch cp cg base n R W hr h0 hR⟩
  · exact ⟨_, _, fun H P G ch cp cg W hr => iTerms_bad so H P G ch cp cg base count W hr h0, fun H P G ch cp cg W hr => sTerms_bad so H P G ch cp cg base count W hr h0⟩
end Go.Proofs.YtjgafjbccfjojaaGreat
namespace Go.Proofs.YtjgafjbccfjojaaGreat
open Go.RowKit Go.Sort
theorem run_append_empty (B : Option Addr) (n cp : Nat) (A : Option Addr) (d : Nat) (ty : TypeId) (w : World) (h : n ≤ cp) :
    (Builtin.append_ #[24, 24] ty #[.slice B n cp, .slice A 0 d]).run Tryz.prog w = .ok (.slice B n cp) w := by
  obtain ⟨i0, hi, hz0, hz1, hz2⟩ := info_parts info64
  have ht := Tryz.underlying24
  cases B <;> cases A <;> simp [Builtin.append_, run_underlying ht, sizeOf, typeInfo, hi, Builtin.lenOf, h, Builtin.firstCells, loadCells, loadCellsFrom, storeCells]
end Go.Proofs.YtjgafjbccfjojaaGreat
