/- ScaleNotes: the reference's walk. No condition but those that each theorem names. -/
import Derived.Test.YtdjnblkgeaphmaaScaleW
namespace Go.Proofs.Ytdjnblkgeaphmaa
open Go.RowKit Go.Sort

theorem srtI_zero : srtI 0 = [] := by decide +kernel
set_option maxRecDepth 100000 in
set_option maxHeartbeats 2000000 in
theorem l25Notes_any (n : Nat) (w : World) (hn : n ≤ 40) :
    Calls Try.prog 134 #[.int .i64 (n : Int)] w (RetList w (srtI n)) := by
  obtain ⟨i0, hi, hz0, hz1, hz2⟩ := info_parts info64
  have HI := Lib.hid hi
  clear hi
  go_enter Try.func134, Try.ntmps134
  go_wp2_with fail
  go_loopw [3, 4] (fun v t wr => ∃ k : Nat, k ≤ n ∧ t = .int .i64 k ∧ OwnS w.heap.size (srtI k) v wr ∧ Below w.heap.size w wr) (fun _ t _ => n - (intOf t).toNat)
  case atStart => exact ⟨0, by omega, rfl, by rw [srtI_zero]; exact ⟨w.heap.size, 0, rfl, Nat.le_refl _, by simp, fun j x hx => absurd hx (by simp), fun j => World.frozen?_alloc_at _ _ _ _ rfl, Nat.le_refl _, by unfold maxLen; omega⟩, ext1 _ _⟩
  case round =>
    obtain ⟨k, hk, rfl, HO, hbe⟩ := hrel
    by_cases hlt : k < n
    · obtain ⟨g, cap, rfl, hg0, hg1, hg2, hg3, hg4, hg5⟩ := HO
      have hlen : (srtI k).length = k := srtI_len (by omega)
      rw [hlen] at hg4
      have hlen' := Lib.hid hlen
      rw [hlen]
      clear hlen
      have HG := Lib.hid hg2
      clear hg2
      have i1 : (k : Int) < n := by omega
      have hg5' : cap ≤ 9223372036854775807 := by unfold maxLen at hg5; omega
      go_wp2_with fail
      obtain ⟨wr0, hwr0⟩ : ∃ W : World, W = wr := ⟨_, rfl⟩
      rw [← hwr0]
      have hrg : ∀ j x, (srtI k)[j]? = some x → wr0.cell? ⟨g, j, none⟩ = some (.int .i64 x) := by rw [hwr0]; exact HG.out
      have HRG := Lib.hid hrg
      have hbe0 : Below w.heap.size w wr0 := by rw [hwr0]; exact hbe
      have hg10 : g < wr0.heap.size := by rw [hwr0]; exact hg1
      clear hrg HG hbe hg1 hg3 hwr0
      go_loop [5] (fun t => ∃ p : Nat, plc k ≤ p ∧ p ≤ k ∧ t = .int .i64 p) (fun t => (intOf t).toNat)
      case atStart => exact ⟨k, (srt_step (by omega)).2.1, Nat.le_refl _, rfl⟩
      case round =>
        obtain ⟨p, hp1, hp2, rfl⟩ := hrel
        by_cases hpe : p = plc k
        · have ht : Hid (0 < p → hB k ((srt k).getD (p - 1) 0) = false) := fun h0 => by
            obtain ⟨e1, e2⟩ := srt_test (n := k) (j := p - 1) (by omega) (by omega)
            rw [hB_rk (by omega) (by omega), e2]
            simp
            omega
          subst hpe
          have hpk : plc k ≤ k := hp2
          have hst := Lib.hid (srtI_step (n := k) (by omega))
          rcases Nat.eq_zero_or_pos (plc k) with h0 | h0
          · generalize hpp : plc k = p at *
            have h0' : decide (0 < p) = false := by simp; omega
            clear h0 ht hp1 hp2
            have HOwn : Hid (∀ W, (∀ j x, (srtI k)[j]? = some x → W.cell? ⟨g, j, none⟩ = some (.int .i64 x)) → Calls Try.prog 153 #[.slice (some ⟨g, 0, none⟩) p cap] W fun e w' => ∃ v, e = .returned v ∧ w'.ownsRow W.heap.size 2 1 v p (((srtI k).take p).map (Value.int .i64)) ∧ v ≠ .slice none 0 0 ∧ Below W.heap.size W w') := fun W hc => by
              have hl : ((srtI k).take p).length = p := by rw [List.length_take, hlen'.out]; omega
              have := l00Own_at g 0 cap ((srtI k).take p) W (fun j x hx => by rw [Nat.zero_add]; exact hc j x (by rw [List.getElem?_take] at hx; split at hx; exact hx; cases hx)) (by rw [hl]; omega)
              rwa [hl] at this
            have hpc : p ≤ cap := by omega
            have hpk' : (p : Int) ≤ (k : Int) := by omega
            have hpc' : (p : Int) ≤ (cap : Int) := by omega
            have hkc' : (k : Int) ≤ (cap : Int) := by omega
            go_wp2_with (first | (go_at_call 185; (with_reducible refine (HH.out _).mono ?_); rintro e w' ⟨rfl, rfl⟩))
            refine (HOwn.out _ HRG.out).mono ?_
            rintro e w1 ⟨v1, rfl, ho1, _, hb1⟩
            have hs1 := hb1.size
            go_wp2_with (at_builtin; refine wpList_append_own _ rfl _ _ 26 rfl wr0.heap.size 2 i0 (.int .i64 0) 1 8 Try.underlying26 HI.out hz0 hz1 hz2 rfl (by decide) _ _ _ rfl (ho1.alloc _) ⟨w1.heap.size, 0, none⟩ 1 1 [.int .i64 k] rfl rfl ?c1 ?c2 ?c3 ?c4 ?c5 ?_)
            case c1 => exact cell_one_new _ _ _
            case c2 => simp [Value.oneCell']
            case c3 => unfold maxLen; omega
            case c4 => omega
            case c5 => simp; omega
            intro v2 w2 hown2 hgrow2 _
            have hb2 : Below wr0.heap.size wr0 w2 := below_grown (ext_alloc hb1 _) (ho1.alloc _) (Nat.le_refl _) hgrow2
            have hs2 := hb2.size
            have hc2 : ∀ j x, (srtI k)[j]? = some x → w2.cell? ⟨g, j, none⟩ = some (.int .i64 x) := fun j x hx => (hb2.cell (p := ⟨g, j, none⟩) hg10).trans (HRG.out j x hx)
            have HC2 := Lib.hid hc2
            clear hc2 hgrow2
            by_cases hpc2 : p = cap
            · have hpk2 : (p : Int) = k := by omega
              have hpc3 : (p : Int) = cap := by omega
              go_wp2_with (at_builtin; refine wpList_append_own _ rfl _ _ 26 rfl wr0.heap.size 2 i0 (.int .i64 0) 1 8 Try.underlying26 HI.out hz0 hz1 hz2 rfl (by decide) _ _ _ rfl hown2 _ _ _ (((srtI k).drop p).map (Value.int .i64)) rfl ?d1 ?c1 ?c2 ?c3 ?c4 ?c5 ?_)
              case d1 => first | (simp [hlen'.out]; done) | (simp [hlen'.out]; omega)
              case c1 =>
                intro j u hu
                rw [List.getElem?_map, List.getElem?_drop] at hu
                cases hx : (srtI k)[p + j]? with
                | none => rw [hx] at hu; cases hu
                | some x =>
                  rw [hx] at hu
                  obtain rfl := Option.some.inj hu
                  have ea : (⟨g, p, none⟩ : Addr).add j = ⟨g, p + j, none⟩ := by simp [Addr.add]
                  first
                    | (rw [ea]; exact HC2.out (p + j) x hx)
                    | (exfalso; have h9 := (List.getElem?_eq_some_iff.1 hx).1; rw [hlen'.out] at h9; omega)
              case c2 => intro u hu; obtain ⟨x, _, rfl⟩ := List.mem_map.1 hu; rfl
              case c3 => unfold maxLen; omega
              case c4 => omega
              case c5 => exact hs2
              intro v3 w3 hown3 hgrow3 _
              have hb3 : Below wr0.heap.size wr0 w3 := below_grown hb2 hown2 (Nat.le_refl _) hgrow3
              have e2 : (srtI (k + 1)).map (Value.int .i64) = ((srtI k).take p).map (Value.int .i64) ++ .int .i64 k :: ((srtI k).drop p).map (Value.int .i64) := by rw [hst.out]; simp
              simp only [← List.map_take, ← List.map_drop] at hown3
              have e1 : (srtI (k + 1)).length = k + 1 := srtI_len (by omega)
              have h3 : w3.ownsRow wr0.heap.size 2 1 v3 (srtI (k + 1)).length ((srtI (k + 1)).map (Value.int .i64)) := by
                rw [e1, e2]
                have e5 : k + 1 = p + 1 + (k - p) := by omega
                first
                  | (rw [e5]; exact hown3)
                  | (have e6 : k + 1 = cap + 1 := by omega
                     rw [e6, hpc2]
                     exact hown3)
              have HV3 := (ownS_pos h3 (by rw [e1]; omega)).more hbe0.size
              clear h3 e1 e2 hown3 hown2 hgrow3
              go_wp2
              go_roundw
              case rel => exact ⟨k + 1, by omega, by go_num, HV3, ext_trans hbe0 hb3⟩
              case measure => simp [intOf]; omega
            · have hpc3 : decide (p = cap) = false := by simpa using hpc2
              have hpc4 : (p : Int) < cap := by omega
              go_wp2_with (at_builtin; refine wpList_append_own _ rfl _ _ 26 rfl wr0.heap.size 2 i0 (.int .i64 0) 1 8 Try.underlying26 HI.out hz0 hz1 hz2 rfl (by decide) _ _ _ rfl hown2 _ _ _ (((srtI k).drop p).map (Value.int .i64)) rfl ?d1 ?c1 ?c2 ?c3 ?c4 ?c5 ?_)
              case d1 => first | (simp [hlen'.out]; done) | (simp [hlen'.out]; omega)
              case c1 =>
                intro j u hu
                rw [List.getElem?_map, List.getElem?_drop] at hu
                cases hx : (srtI k)[p + j]? with
                | none => rw [hx] at hu; cases hu
                | some x =>
                  rw [hx] at hu
                  obtain rfl := Option.some.inj hu
                  have ea : (⟨g, p, none⟩ : Addr).add j = ⟨g, p + j, none⟩ := by simp [Addr.add]
                  first
                    | (rw [ea]; exact HC2.out (p + j) x hx)
                    | (exfalso; have h9 := (List.getElem?_eq_some_iff.1 hx).1; rw [hlen'.out] at h9; omega)
              case c2 => intro u hu; obtain ⟨x, _, rfl⟩ := List.mem_map.1 hu; rfl
              case c3 => unfold maxLen; omega
              case c4 => omega
              case c5 => exact hs2
              intro v3 w3 hown3 hgrow3 _
              have hb3 : Below wr0.heap.size wr0 w3 := below_grown hb2 hown2 (Nat.le_refl _) hgrow3
              have e2 : (srtI (k + 1)).map (Value.int .i64) = ((srtI k).take p).map (Value.int .i64) ++ .int .i64 k :: ((srtI k).drop p).map (Value.int .i64) := by rw [hst.out]; simp
              simp only [← List.map_take, ← List.map_drop] at hown3
              have e1 : (srtI (k + 1)).length = k + 1 := srtI_len (by omega)
              have h3 : w3.ownsRow wr0.heap.size 2 1 v3 (srtI (k + 1)).length ((srtI (k + 1)).map (Value.int .i64)) := by
                rw [e1, e2]
                have e5 : k + 1 = p + 1 + (k - p) := by omega
                first
                  | (rw [e5]; exact hown3)
                  | (have e6 : k + 1 = cap + 1 := by omega
                     rw [e6, hpc2]
                     exact hown3)
              have HV3 := (ownS_pos h3 (by rw [e1]; omega)).more hbe0.size
              clear h3 e1 e2 hown3 hown2 hgrow3
              go_wp2
              go_roundw
              case rel => exact ⟨k + 1, by omega, by go_num, HV3, ext_trans hbe0 hb3⟩
              case measure => simp [intOf]; omega
          · have hx := HRG.out (plc k - 1) _ (srtI_get (n := k) (j := plc k - 1) (by omega) (by omega))
            have hxl : (srt k).getD (plc k - 1) 0 ≤ 39 := by have := (srt_test (n := k) (j := plc k - 1) (by omega) (by omega)).1; omega
            have HH := Lib.hid (l25Height_any k ((srt k).getD (plc k - 1) 0) · (by omega) hxl)
            rw [ht h0] at HH
            generalize (srt k).getD (plc k - 1) 0 = x at *
            generalize plc k = p at *
            have i2 : (0 : Int) ≤ (p : Int) - 1 := by omega
            have i3 : (p : Int) - 1 < k := by omega
            have i4 : (0 : Int) < p := by omega
            have h0' : decide (0 < p) = true := by simp; omega
            have HOwn : Hid (∀ W, (∀ j x, (srtI k)[j]? = some x → W.cell? ⟨g, j, none⟩ = some (.int .i64 x)) → Calls Try.prog 153 #[.slice (some ⟨g, 0, none⟩) p cap] W fun e w' => ∃ v, e = .returned v ∧ w'.ownsRow W.heap.size 2 1 v p (((srtI k).take p).map (Value.int .i64)) ∧ v ≠ .slice none 0 0 ∧ Below W.heap.size W w') := fun W hc => by
              have hl : ((srtI k).take p).length = p := by rw [List.length_take, hlen'.out]; omega
              have := l00Own_at g 0 cap ((srtI k).take p) W (fun j x hx => by rw [Nat.zero_add]; exact hc j x (by rw [List.getElem?_take] at hx; split at hx; exact hx; cases hx)) (by rw [hl]; omega)
              rwa [hl] at this
            have hpc : p ≤ cap := by omega
            have hpk' : (p : Int) ≤ (k : Int) := by omega
            have hpc' : (p : Int) ≤ (cap : Int) := by omega
            have hkc' : (k : Int) ≤ (cap : Int) := by omega
            go_wp2_with (first | (go_at_call 185; (with_reducible refine (HH.out _).mono ?_); rintro e w' ⟨rfl, rfl⟩))
            refine (HOwn.out _ HRG.out).mono ?_
            rintro e w1 ⟨v1, rfl, ho1, _, hb1⟩
            have hs1 := hb1.size
            go_wp2_with (at_builtin; refine wpList_append_own _ rfl _ _ 26 rfl wr0.heap.size 2 i0 (.int .i64 0) 1 8 Try.underlying26 HI.out hz0 hz1 hz2 rfl (by decide) _ _ _ rfl (ho1.alloc _) ⟨w1.heap.size, 0, none⟩ 1 1 [.int .i64 k] rfl rfl ?c1 ?c2 ?c3 ?c4 ?c5 ?_)
            case c1 => exact cell_one_new _ _ _
            case c2 => simp [Value.oneCell']
            case c3 => unfold maxLen; omega
            case c4 => omega
            case c5 => simp; omega
            intro v2 w2 hown2 hgrow2 _
            have hb2 : Below wr0.heap.size wr0 w2 := below_grown (ext_alloc hb1 _) (ho1.alloc _) (Nat.le_refl _) hgrow2
            have hs2 := hb2.size
            have hc2 : ∀ j x, (srtI k)[j]? = some x → w2.cell? ⟨g, j, none⟩ = some (.int .i64 x) := fun j x hx => (hb2.cell (p := ⟨g, j, none⟩) hg10).trans (HRG.out j x hx)
            have HC2 := Lib.hid hc2
            clear hc2 hgrow2
            by_cases hpc2 : p = cap
            · have hpk2 : (p : Int) = k := by omega
              have hpc3 : (p : Int) = cap := by omega
              go_wp2_with (at_builtin; refine wpList_append_own _ rfl _ _ 26 rfl wr0.heap.size 2 i0 (.int .i64 0) 1 8 Try.underlying26 HI.out hz0 hz1 hz2 rfl (by decide) _ _ _ rfl hown2 _ _ _ (((srtI k).drop p).map (Value.int .i64)) rfl ?d1 ?c1 ?c2 ?c3 ?c4 ?c5 ?_)
              case d1 => first | (simp [hlen'.out]; done) | (simp [hlen'.out]; omega)
              case c1 =>
                intro j u hu
                rw [List.getElem?_map, List.getElem?_drop] at hu
                cases hx : (srtI k)[p + j]? with
                | none => rw [hx] at hu; cases hu
                | some x =>
                  rw [hx] at hu
                  obtain rfl := Option.some.inj hu
                  have ea : (⟨g, p, none⟩ : Addr).add j = ⟨g, p + j, none⟩ := by simp [Addr.add]
                  first
                    | (rw [ea]; exact HC2.out (p + j) x hx)
                    | (exfalso; have h9 := (List.getElem?_eq_some_iff.1 hx).1; rw [hlen'.out] at h9; omega)
              case c2 => intro u hu; obtain ⟨x, _, rfl⟩ := List.mem_map.1 hu; rfl
              case c3 => unfold maxLen; omega
              case c4 => omega
              case c5 => exact hs2
              intro v3 w3 hown3 hgrow3 _
              have hb3 : Below wr0.heap.size wr0 w3 := below_grown hb2 hown2 (Nat.le_refl _) hgrow3
              have e2 : (srtI (k + 1)).map (Value.int .i64) = ((srtI k).take p).map (Value.int .i64) ++ .int .i64 k :: ((srtI k).drop p).map (Value.int .i64) := by rw [hst.out]; simp
              simp only [← List.map_take, ← List.map_drop] at hown3
              have e1 : (srtI (k + 1)).length = k + 1 := srtI_len (by omega)
              have h3 : w3.ownsRow wr0.heap.size 2 1 v3 (srtI (k + 1)).length ((srtI (k + 1)).map (Value.int .i64)) := by
                rw [e1, e2]
                have e5 : k + 1 = p + 1 + (k - p) := by omega
                first
                  | (rw [e5]; exact hown3)
                  | (have e6 : k + 1 = cap + 1 := by omega
                     rw [e6, hpc2]
                     exact hown3)
              have HV3 := (ownS_pos h3 (by rw [e1]; omega)).more hbe0.size
              clear h3 e1 e2 hown3 hown2 hgrow3
              go_wp2
              go_roundw
              case rel => exact ⟨k + 1, by omega, by go_num, HV3, ext_trans hbe0 hb3⟩
              case measure => simp [intOf]; omega
            · have hpc3 : decide (p = cap) = false := by simpa using hpc2
              have hpc4 : (p : Int) < cap := by omega
              go_wp2_with (at_builtin; refine wpList_append_own _ rfl _ _ 26 rfl wr0.heap.size 2 i0 (.int .i64 0) 1 8 Try.underlying26 HI.out hz0 hz1 hz2 rfl (by decide) _ _ _ rfl hown2 _ _ _ (((srtI k).drop p).map (Value.int .i64)) rfl ?d1 ?c1 ?c2 ?c3 ?c4 ?c5 ?_)
              case d1 => first | (simp [hlen'.out]; done) | (simp [hlen'.out]; omega)
              case c1 =>
                intro j u hu
                rw [List.getElem?_map, List.getElem?_drop] at hu
                cases hx : (srtI k)[p + j]? with
                | none => rw [hx] at hu; cases hu
                | some x =>
                  rw [hx] at hu
                  obtain rfl := Option.some.inj hu
                  have ea : (⟨g, p, none⟩ : Addr).add j = ⟨g, p + j, none⟩ := by simp [Addr.add]
                  first
                    | (rw [ea]; exact HC2.out (p + j) x hx)
                    | (exfalso; have h9 := (List.getElem?_eq_some_iff.1 hx).1; rw [hlen'.out] at h9; omega)
              case c2 => intro u hu; obtain ⟨x, _, rfl⟩ := List.mem_map.1 hu; rfl
              case c3 => unfold maxLen; omega
              case c4 => omega
              case c5 => exact hs2
              intro v3 w3 hown3 hgrow3 _
              have hb3 : Below wr0.heap.size wr0 w3 := below_grown hb2 hown2 (Nat.le_refl _) hgrow3
              have e2 : (srtI (k + 1)).map (Value.int .i64) = ((srtI k).take p).map (Value.int .i64) ++ .int .i64 k :: ((srtI k).drop p).map (Value.int .i64) := by rw [hst.out]; simp
              simp only [← List.map_take, ← List.map_drop] at hown3
              have e1 : (srtI (k + 1)).length = k + 1 := srtI_len (by omega)
              have h3 : w3.ownsRow wr0.heap.size 2 1 v3 (srtI (k + 1)).length ((srtI (k + 1)).map (Value.int .i64)) := by
                rw [e1, e2]
                have e5 : k + 1 = p + 1 + (k - p) := by omega
                first
                  | (rw [e5]; exact hown3)
                  | (have e6 : k + 1 = cap + 1 := by omega
                     rw [e6, hpc2]
                     exact hown3)
              have HV3 := (ownS_pos h3 (by rw [e1]; omega)).more hbe0.size
              clear h3 e1 e2 hown3 hown2 hgrow3
              go_wp2
              go_roundw
              case rel => exact ⟨k + 1, by omega, by go_num, HV3, ext_trans hbe0 hb3⟩
              case measure => simp [intOf]; omega
        · have ht : hB k ((srt k).getD (p - 1) 0) = true := by
            obtain ⟨e1, e2⟩ := srt_test (n := k) (j := p - 1) (by omega) (by omega)
            rw [hB_rk (by omega) (by omega), e2]
            simp
            omega
          have hx := HRG.out (p - 1) _ (srtI_get (n := k) (j := p - 1) (by omega) (by omega))
          have hxl : (srt k).getD (p - 1) 0 ≤ 39 := by have := (srt_test (n := k) (j := p - 1) (by omega) (by omega)).1; omega
          have HH := Lib.hid (l25Height_any k ((srt k).getD (p - 1) 0) · (by omega) hxl)
          rw [ht] at HH
          generalize (srt k).getD (p - 1) 0 = x at *
          have i2 : (0 : Int) ≤ (p : Int) - 1 := by omega
          have i3 : (p : Int) - 1 < k := by omega
          have i4 : (0 : Int) < p := by omega
          go_wp2_with (go_at_call 185; refine (HH.out _).mono ?_; rintro e w' ⟨rfl, rfl⟩)
          go_round
          case rel => exact ⟨p - 1, by omega, by omega, by go_num⟩
          case measure => simp [intOf]; omega
    · obtain ⟨A, c, rfl, hw⟩ := HO.wr
      clear HO
      go_wp2
      go_ret
      obtain rfl : k = n := by omega
      exact ⟨A, c, rfl, hw, hbe⟩
end Go.Proofs.Ytdjnblkgeaphmaa
