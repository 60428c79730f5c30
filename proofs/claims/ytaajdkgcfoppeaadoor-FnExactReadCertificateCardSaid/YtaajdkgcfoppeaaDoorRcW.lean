/- ReadCertificate: both walks. No condition but those that each theorem names. -/
import Derived.Test.YtaajdkgcfoppeaaDoorRcP
import Derived.Deep.RegionHeld3
import Derived.Maps.AppendAt
namespace Go.Proofs.YtaajdkgcfoppeaaDoor
open Go.RowKit Go.Sort Go.Maps Go.WideMaps

/-- What a call returns that reads a certificate. -/
def RetRc (w : World) (kk : Int) (xs : List Int) (ok : Bool) (e : Ending) (w' : World) : Prop :=
  ∃ B c, e = .returned (.tuple #[certV kk B xs.length c, .bool ok]) ∧ Wr (Value.int .i64) w' w.heap.size B xs ∧ Below w.heap.size w w'
set_option maxHeartbeats 1000000 in
theorem indexStr_any (A : Option Addr) (c : Nat) (ws : List ByteArray) (v : ByteArray) (w : World) (hx : Rd Value.string w w.heap.size A ws) (hm : ws.length ≤ maxLen) :
    Calls Tryd.prog 15 #[.slice A ws.length c, .string v] w fun e w' => e = .returned (.int .i64 (ixW v ws 0)) ∧ w = w' := by
  unfold maxLen at hm
  obtain ⟨R, hR⟩ : ∃ R, ixW v ws 0 = R := ⟨_, rfl⟩
  rw [hR]
  have HR : Hid (ixW v (ws.drop 0) 0 = R) := hR
  clear hR
  go_enter Tryd.func15, Tryd.ntmps15
  go_wp2_with fail
  go_loop [8] (fun t => ∃ k : Nat, k ≤ ws.length ∧ t = .int .i64 k ∧ Hid (ixW v (ws.drop k) k = R)) (fun t => ws.length - (intOf t).toNat)
  case atStart => exact ⟨0, by omega, rfl, HR.out⟩
  case round =>
    obtain ⟨k, hk, rfl, HK⟩ := hrel
    clear HR
    by_cases hlt : k < ws.length
    · obtain ⟨b, off, rfl, hb, hc⟩ := hx (by omega)
      obtain ⟨x, hxk⟩ : ∃ x, ws[k]? = some x := ⟨_, List.getElem?_eq_getElem hlt⟩
      have c1 := hc k x hxk
      have HS := Lib.hid (ixW_step (v := v) hxk)
      clear hc hxk
      have i0 : (0 : Int) ≤ (k : Int) := by omega
      have i1 : (k : Int) < (ws.length : Int) := by omega
      by_cases hvx : v = x
      · have HE : Hid ((k : Int) = R) := by
          have h := HK.out
          rw [HS.out, if_pos hvx] at h
          exact h
        have heq := strEqB hvx
        clear hvx
        go_wp2
        go_ret
        exact ⟨ret_int HE.out, rfl⟩
      · have HE : Hid (ixW v (ws.drop (k + 1)) (k + 1) = R) := by
          have h := HK.out
          rw [HS.out, if_neg hvx] at h
          exact h
        have heq := strNeB hvx
        clear hvx
        go_wp2
        go_round
        case rel => exact ⟨k + 1, by omega, by go_num, HE.out⟩
        case measure => simp [intOf]; omega
    · have HE : Hid (-1 = R) := (ixW_end hlt).symm.trans HK.out
      go_wp2
      go_ret
      exact ⟨ret_int HE.out, rfl⟩
/-- The state of the reference's reader: its box, its numbers. -/
structure RI (V : World) (b : Nat) (k : Int) (ns : List Int) (v : Value) (W : World) : Prop where
  bel : Below V.heap.size V W
  s : BoxV b [.int .i64 k, v] W
  row : W.ownsRow V.heap.size 2 1 v ns.length (ns.map (Value.int .i64))
  far : v.ownBlock ≠ some b
  hb : V.heap.size ≤ b
theorem own_putR {b j : Nat} {u : Value} {W : World} {base : Nat} {e : TypeId} {size n : Nat} {v : Value} {xs : List Value} (h : W.ownsRow base e size v n xs) (hb : v.ownBlock ≠ some b) : (W.setCell ⟨b, j, none⟩ u).ownsRow base e size v n xs := by
  obtain ⟨h1, h2⟩ := h
  refine ⟨h1, ?_⟩
  rcases h2 with h2 | ⟨c, cap, cur, hv, hc, hh, r⟩
  · exact .inl h2
  · refine .inr ⟨c, cap, cur, hv, hc, ?_, r⟩
    have hne : c ≠ b := fun e => hb (by rw [hv, e]; rfl)
    exact (Below.heap_setCell W ⟨b, j, none⟩ u c (by simp; exact hne)).trans hh
section
variable {V : World} {b : Nat} {k : Int} {ns : List Int} {v : Value} {W W' : World}
theorem RI.next (t : RI V b k ns v W) (hb : Below W.heap.size W W') : RI V b k ns v W' :=
  ⟨ext_trans t.bel hb, t.s.next hb, own_below t.row hb, t.far, t.hb⟩
theorem RI.kind (t : RI V b k ns v W) (k' : Int) : RI V b k' ns v (W.setCell ⟨b, 0, none⟩ (.int .i64 k')) :=
  ⟨t.bel.setCell t.hb _, t.s.set 0 _ (by simp), own_putR t.row t.far, t.far, t.hb⟩
theorem RI.push (t : RI V b k ns v W) {y : Int} {v' : Value} (hown : W'.ownsRow V.heap.size 2 1 v' (ns.length + 1) (ns.map (Value.int .i64) ++ [.int .i64 y])) (hgr : W.grownBy W' v.ownBlock) (hf : v'.ownBlock ≠ some b) :
    RI V b k (ns ++ [y]) v' (W'.setCell ⟨b, 1, none⟩ v') := by
  have hl := fun k hk => (t.row.lt k hk).1
  refine ⟨(t.bel.grown hgr t.bel.size hl).setCell t.hb _, (t.s.grown hgr t.far).set 1 _ (by simp), own_putR ?_ hf, hf, t.hb⟩
  simpa using hown
end
set_option maxRecDepth 100000 in
set_option maxHeartbeats 4000000 in
theorem sReadCert_any (s : ByteArray) (w : World) (hs : s.size ≤ 1000000000) :
    Calls Tryd.prog 4 #[.string s] w (RetRc w (rcK (rcW (spB 32 s))) (rcX (rcW (spB 32 s))) (rcW (spB 32 s)).isSome) := by
  obtain ⟨ti, hi, hz0, hz1, hz2⟩ := info_parts info64
  have HI := Lib.hid hi
  have hcnt := spB_count 32 s
  have HSZ : Hid (∀ x ∈ spB 32 s, x.size ≤ maxLen) := fun x hx => by have := spB_sz hx; unfold maxLen; omega
  have HSP := Lib.hid (fun W : World => l01Split_any s 32 32 rfl W (by omega))
  obtain ⟨w0, r, hwr⟩ := spB_ne 32 s
  have HX0 : Hid (rcX (rcW (spB 32 s)) = rcX (rcW (w0 :: r))) := by rw [hwr]; exact rfl
  rw [hwr] at HSP HSZ hcnt ⊢
  have HNone : Hid (∀ ws', rcK none = 0 ∧ rcX none = [] ∧ (none : Option (Int × List Int)).isSome = ws' → True) := fun _ _ => trivial
  have HN : Hid (∀ k x, r[k]? = some x → numB x = none → rcW (w0 :: r) = none) := fun k x h1 h2 => rcW_none (nums_none h1 h2)
  have HF : Hid (∀ ns, numsB (r.take r.length) = some ns → (bdC (kdW w0) ns = true → rcW (w0 :: r) = some (kdW w0, ns)) ∧ (bdC (kdW w0) ns = false → rcW (w0 :: r) = none)) := fun ns h => by
    rw [List.take_of_length_le (Nat.le_refl _)] at h
    exact ⟨rcW_ok h, rcW_bad h⟩
  generalize rcW (w0 :: r) = R at *
  obtain ⟨n, hn⟩ : ∃ n, (w0 :: r).length = n := ⟨_, rfl⟩
  have hnr : r.length + 1 = n := by rw [← hn]; rfl
  have HNR := Lib.hid hnr
  unfold RetStrs at HSP
  rw [hn] at HSP hcnt
  clear hwr HX0 HNone hi hnr hn
  have HR0 := Lib.hid (BoxV.new w #[.int .i64 0, .slice none 0 0] 24)
  have E0 := Lib.hid (ext1 w (.cells #[.int .i64 0, .slice none 0 0] 24))
  go_enter Tryd.func4, Tryd.ntmps4
  go_wp2_with fail
  refine (HSP.out _).mono ?_
  rintro e w1 ⟨A1, c1, rfl, hw1, hb1⟩
  have HR1 := Lib.hid (HR0.out.next hb1)
  have E1 := Lib.hid (ext_trans E0.out hb1)
  have hn1 : 1 ≤ n := by have := HNR.out; omega
  obtain ⟨g1, o1, rfl, hg1, hg1l, hc1, _⟩ := hw1 (by simp)
  have HW1 : Hid (∀ W, Below w1.heap.size w1 W → ∀ j x, (w0 :: r)[j]? = some x → W.cell? ⟨g1, o1 + j, none⟩ = some (.string x)) := fun W hb j x h => (hb.cell (p := ⟨g1, o1 + j, none⟩) hg1l).trans (hc1 j x h)
  clear hw1 hc1 HR0 E0 hb1
  go_wp2_with fail
  refine (l26Words_any _).mono ?_
  rintro e w2 ⟨rfl, hws, hb2⟩
  have HR2 := Lib.hid (HR1.out.next hb2)
  have E2 := Lib.hid (ext_trans E1.out hb2)
  have hz12 : w1.heap.size < w2.heap.size := by
    have h := hws 0 ⟨#[103, 99, 100]⟩ rfl
    exact Lib.lt_of_cell h
  have HW2 : Hid (∀ W, Below w2.heap.size w2 W → ∀ j x, (w0 :: r)[j]? = some x → W.cell? ⟨g1, o1 + j, none⟩ = some (.string x)) := fun W hb => HW1.out W (ext_trans hb2 hb)
  have HD2 : Hid (∀ W, Below w2.heap.size w2 W → ∀ j x, ctWords[j]? = some x → W.cell? ⟨w1.heap.size, j, none⟩ = some (.string x)) := fun W hb j x h => (hb.cell (p := ⟨w1.heap.size, j, none⟩) hz12).trans (hws j x h)
  have HWL : Hid (w.heap.size < w2.heap.size) := by
    have h := HR2.out.lt
    exact h
  clear hws HW1 HR1 E1 hb2
  have S0 : Hid (RI w2 (w2.heap.size + 1) 0 [] (.slice (some ⟨w2.heap.size, 0, none⟩) 0 0) ((w2.alloc (.cells #[] 2)).alloc (.cells #[.int .i64 0, .slice (some ⟨w2.heap.size, 0, none⟩) 0 0] 24))) := by
    have h := World.ownsRow_lit (base := w2.heap.size) (e := 2) (size := 1) w2 #[] 0 (by simp) (by simp) rfl
    have hs := BoxV.new (w2.alloc (.cells #[] 2)) #[.int .i64 0, .slice (some ⟨w2.heap.size, 0, none⟩) 0 0] 24
    refine ⟨ext_alloc (ext1 _ _) _, by simpa using hs, own_below (by simpa using h) (ext1 _ _), ?_, by omega⟩
    intro e
    have e2 : w2.heap.size = w2.heap.size + 1 := Option.some.inj e
    omega
  go_wp2_with fail
  generalize (w2.alloc (.cells #[] 2)).alloc (.cells #[.int .i64 0, .slice (some ⟨w2.heap.size, 0, none⟩) 0 0] 24) = W3 at *
  go_loopw [7] (fun t wr => ∃ k : Nat, k ≤ 6 ∧ t = .int .i64 k ∧ Hid (RI w2 (w2.heap.size + 1) (kdU w0 k) [] (.slice (some ⟨w2.heap.size, 0, none⟩) 0 0) wr)) (fun t _ => 6 - (intOf t).toNat)
  case atStart => exact ⟨0, by omega, rfl, S0.out⟩
  case round =>
    obtain ⟨k, hk, rfl, HS⟩ := hrel
    clear S0
    by_cases hlt : k < 6
    · obtain ⟨d, hd⟩ : ∃ d, ctWords[k]? = some d := ⟨_, List.getElem?_eq_getElem (by simpa [ctWords] using hlt)⟩
      have ck := HD2.out wr HS.out.bel k d hd
      have c0 := HW2.out wr HS.out.bel 0 w0 rfl
      rw [Nat.add_zero] at c0
      have i0 : (0 : Int) ≤ (k : Int) := by omega
      have i1 : (k : Int) < 6 := by omega
      have i2 : (0 : Int) < (n : Int) := by omega
      have hd2 : ctWords.getD k ⟨#[]⟩ = d := by simp only [List.getD, hd, Option.getD_some]
      by_cases hdw : d = w0
      · have heq := strEqB hdw
        have HE : Hid (kdU w0 (k + 1) = (k : Int) + 1) := by unfold Hid; rw [kdU, hd2, if_pos hdw]
        clear hd hd2 hdw
        go_wp2_with fail
        go_quiet (fail)
        have HT := Lib.hid (HS.out.next (below_drewN' (n := nq) (Below.refl _ _)))
        have u0 := HT.out.s.at 0 _ rfl
        have f0 := HT.out.s.f 0
        have HK := Lib.hid (HT.out.kind ((k : Int) + 1))
        have HU : Hid (∃ z, z = kdU w0 k) := ⟨_, rfl⟩
        generalize kdU w0 k = z0 at *
        generalize wr.drewN nq = Wq at *
        have v1 : IntKind.i64.wrap ((k : Int) + 1) = (k : Int) + 1 := IntWalk.i64_in _ (by omega)
        clear HS HT
        go_wp2
        go_roundw
        case rel => exact ⟨k + 1, by omega, by go_num, by rw [HE.out]; exact HK.out⟩
        case measure => simp [intOf]; omega
      · have heq := strNeB hdw
        have HE : Hid (kdU w0 (k + 1) = kdU w0 k) := by unfold Hid; rw [kdU, hd2, if_neg hdw]
        clear hd hd2 hdw
        go_wp2_with fail
        go_quiet (fail)
        have HT := Lib.hid (HS.out.next (below_drewN' (n := nq) (Below.refl _ _)))
        generalize wr.drewN nq = Wq at *
        clear HS
        go_wp2
        go_roundw
        case rel => exact ⟨k + 1, by omega, by go_num, by rw [HE.out]; exact HT.out⟩
        case measure => simp [intOf]; omega
    · have hk6 : k = 6 := by omega
      have S1 : Hid (RI w2 (w2.heap.size + 1) (kdW w0) [] (.slice (some ⟨w2.heap.size, 0, none⟩) 0 0) wr) := by
        have h := HS.out
        rw [hk6, kdU_all] at h
        exact h
      have hkb := kdW_bd w0
      clear HS hk6
      generalize kdW w0 = kd at *
      go_wp2_with fail
      go_loopw [8] (fun t wr => ∃ (m : Nat) (ns : List Int) (v : Value), m ≤ r.length ∧ t = .int .i64 ((m : Int) + 1) ∧ Hid (numsB (r.take m) = some ns) ∧ Hid (RI w2 (w2.heap.size + 1) kd ns v wr)) (fun t _ => n - (intOf t).toNat)
      case atStart => exact ⟨0, [], _, by omega, rfl, rfl, S1.out⟩
      case round =>
        obtain ⟨m, ns, v, hm, rfl, HNS, HS⟩ := hrel
        clear S1
        have hnn := HNR.out
        by_cases hlt : m < r.length
        · obtain ⟨x, hx⟩ : ∃ x, r[m]? = some x := ⟨_, List.getElem?_eq_getElem hlt⟩
          have cx := HW2.out wr HS.out.bel (m + 1) x (by simpa using hx)
          have hxs := HSZ.out x (List.mem_cons_of_mem _ (List.mem_of_getElem? hx))
          have HX := Lib.hid hx
          have i0 : (0 : Int) ≤ (m : Int) + 1 := by omega
          have i1 : (m : Int) + 1 < (n : Int) := by omega
          have i2 : ((m : Int) + 1).toNat = m + 1 := by omega
          have v1 : IntKind.i64.wrap ((m : Int) + 1 + 1) = (m : Int) + 1 + 1 := IntWalk.i64_in _ (by omega)
          have HC := Lib.hid (l01Number_any x wr hxs)
          have hln : ns.length = m := by
            have h := nums_len HNS.out
            rw [List.length_take] at h
            omega
          have HLN : Hid (ns.length = m) := hln
          have hl2 : ns.length ≤ 1000000001 := by omega
          clear hx hln hnn
          cases hk : numK x
          · have HQ := Lib.hid (HN.out m x HX.out (num_not hk))
            rw [hk] at HC
            generalize numN x = q at *
            clear hk
            go_wp2_with fail
            refine HC.out.mono ?_
            rintro e w5 ⟨rfl, hb5⟩
            have HT := Lib.hid (HS.out.next hb5)
            have hRb := HR2.out.under HT.out.bel HWL.out
            have r0 := hRb.at 0 _ rfl
            have r1 := hRb.at 1 _ rfl
            have q0 := hRb.f 0
            have q1 := hRb.f 1
            have HB5 : Hid (Below w.heap.size w w5) := E2.out.trans (HT.out.bel.mono E2.out.size)
            clear HS cx hRb
            go_wp2
            refine bodyPost_ret (v := .tuple #[certV 0 none 0 0, .bool false]) (by simp [results, Tryd.results4, go_sem, r0, r1]; done) rfl ?_
            rw [HQ.out]
            exact ⟨none, 0, rfl, fun h => absurd h (by simp [rcX]), ext_set (ext_set HB5.out (Nat.le_refl _) _) (Nat.le_refl _) _⟩
          · have HQ := Lib.hid (num_of hk)
            have hqb := num_bd_ x
            rw [hk] at HC
            generalize numN x = q at *
            clear hk
            go_wp2_with fail
            refine HC.out.mono ?_
            rintro e w5 ⟨rfl, hb5⟩
            have HT := Lib.hid (HS.out.next hb5)
            have hown := HT.out.row
            have hbz := HT.out.bel.size
            have u1 := HT.out.s.at 1 _ rfl
            have f1 := HT.out.s.f 1
            clear HS cx
            go_wp2_with (at_builtin; refine wpList_append_own_at _ rfl _ _ 22 rfl w2.heap.size 2 ti (.int .i64 0) 1 8 Tryd.underlying22 HI.out hz0 hz1 hz2 rfl (by decide) _ _ _ rfl (hown.alloc _) ⟨w5.heap.size, 0, none⟩ 1 1 [.int .i64 q] rfl rfl ?c1 ?c2 ?c3 ?c4 ?c5 ?_)
            case c1 => exact cell_one_new _ _ _
            case c2 => simp [Value.oneCell']
            case c3 => unfold maxLen; omega
            case c4 => omega
            case c5 => simp; omega
            intro v' w6 hown3 hgrow _ hat
            obtain ⟨g6, c6, rfl, _⟩ := own_at hown3 (by omega)
            have hf6 : (Value.slice (some ⟨g6, 0, none⟩) (ns.length + 1) c6).ownBlock ≠ some (w2.heap.size + 1) := by
              rcases hat with h | h
              · rw [h]; exact HT.out.far
              · have hlt6 := HT.out.s.lt
                rw [h]
                intro e
                have e2 := Option.some.inj e
                simp at e2
                omega
            have hT2 := HT.out.next (ext1 w5 (.cells #[.int .i64 q] 2))
            have HP := Lib.hid (RI.push hT2 hown3 hgrow hf6)
            have hs6 := hT2.s.grown hgrow hT2.far
            have s1 := hs6.at 1 _ rfl
            have g1' := hs6.f 1
            have HNX : Hid (numsB (r.take (m + 1)) = some (ns ++ [q])) := nums_take HNS.out HX.out HQ.out
            clear hown3 hgrow hown hat hT2 hs6 HT u1 f1 hbz
            go_wp2
            go_roundw
            case rel => exact ⟨m + 1, ns ++ [q], _, by omega, by go_num, HNX.out, HP.out⟩
            case measure => simp [intOf]; omega
        · have hml : m = r.length := by omega
          have HN2 : Hid (numsB (r.take r.length) = some ns) := by rw [← hml]; exact HNS.out
          have HFN := Lib.hid (HF.out ns HN2.out)
          have hmn : (m : Int) + 1 = (n : Int) := by omega
          have hmn2 : ¬ ((m : Int) + 1 < (n : Int)) := by omega
          have hRb := HR2.out.under HS.out.bel HWL.out
          have r0 := hRb.at 0 _ rfl
          have r1 := hRb.at 1 _ rfl
          have q0 := hRb.f 0
          have q1 := hRb.f 1
          have HB5 : Hid (Below w.heap.size w wr) := E2.out.trans (HS.out.bel.mono E2.out.size)
          have HLN : Hid (ns.length ≤ 1000000001) := by
            have h := nums_len HNS.out
            rw [List.length_take] at h
            unfold Hid
            omega
          obtain ⟨_, A5, c5, rfl, hw5⟩ := Wr.of_own HS.out.row
          have HW5 := Lib.hid hw5
          have hwl := HWL.out
          have b0 := HS.out.s.at 0 _ rfl
          have b1 := HS.out.s.at 1 _ rfl
          have HFit := Lib.hid (l26Fits_any (w2.heap.size + 1) A5 c5 ns wr hw5.rd (by have := HLN.out; unfold maxLen; omega) b1)
          have HBD : Hid (bdC kd ns = (inR kd 1 6 && nbB ns)) := rfl
          clear hml hRb hw5 HNS HN2 hnn hmn
          by_cases hk0 : kd = 0
          · have HQ : Hid (R = none) := HFN.out.2 (by rw [HBD.out, hk0]; rfl)
            subst hk0
            clear HFit HFN HBD
            go_wp2
            refine bodyPost_ret (v := .tuple #[certV 0 none 0 0, .bool false]) (by simp [results, Tryd.results4, go_sem, r0, r1]; done) rfl ?_
            rw [HQ.out]
            exact ⟨none, 0, rfl, fun h => absurd h (by simp [rcX]), ext_set (ext_set HB5.out (Nat.le_refl _) _) (Nat.le_refl _) _⟩
          · have hk0' : (kd == 0) = false := by simpa using hk0
            have hin : inR kd 1 6 = true := inR_true.2 ⟨by omega, by omega⟩
            cases hnb : nbB ns
            · have HQ : Hid (R = none) := HFN.out.2 (by rw [HBD.out, hnb, Bool.and_false])
              rw [hnb] at HFit
              clear HFN HBD hnb hin hk0
              go_wp2_with fail
              refine HFit.out.mono ?_
              rintro e w' ⟨rfl, rfl⟩
              go_wp2
              refine bodyPost_ret (v := .tuple #[certV 0 none 0 0, .bool false]) (by simp [results, Tryd.results4, go_sem, r0, r1]; done) rfl ?_
              rw [HQ.out]
              exact ⟨none, 0, rfl, fun h => absurd h (by simp [rcX]), ext_set (ext_set HB5.out (Nat.le_refl _) _) (Nat.le_refl _) _⟩
            · have HQ : Hid (R = some (kd, ns)) := HFN.out.1 (by rw [HBD.out, hnb, hin]; rfl)
              rw [hnb] at HFit
              clear HFN HBD hnb hin hk0
              go_wp2_with fail
              refine HFit.out.mono ?_
              rintro e w' ⟨rfl, rfl⟩
              go_wp2
              refine bodyPost_ret (v := .tuple #[certV kd A5 ns.length c5, .bool true]) (by simp [results, Tryd.results4, go_sem, r0, r1]; done) rfl ?_
              rw [HQ.out]
              exact ⟨A5, c5, rfl, ((HW5.out.setLow (by exact hwl) _).setLow (by exact hwl) _).more (by omega), ext_set (ext_set HB5.out (Nat.le_refl _) _) (Nat.le_refl _) _⟩
end Go.Proofs.YtaajdkgcfoppeaaDoor
