/- The least unit: the reference's loop. No condition but those that each theorem names. -/
import Derived.Test.YtffocmhimkgfeaaUnitSW
import Derived.Deep.DeepCutAuto
namespace Go.Proofs.Ytffocmhimkgfeaa
open Go.RowKit Go.Sort

/-- What the reference's call returns that makes the least unit. -/
def RetUs (w : World) (R : Option (Int × Int)) (n : Nat) (e : Ending) (w' : World) : Prop :=
  ∃ P0 P1 : Int, e = .returned (.tuple #[pairV P0 P1, .int .i64 n, .bool R.isSome]) ∧ (∀ x y, R = some (x, y) → P0 = x ∧ P1 = y) ∧ Below w.heap.size w w'
theorem ext_drewN {w w' : World} {n : Nat} (h : Below w.heap.size w w') : Below w.heap.size w (w'.drewN n) := by
  have h2 := ext_drew h
  exact ⟨h2.1, h2.2, h2.3, h2.4, h2.5⟩
theorem BoxV.drewN {g n : Nat} {vs : List Value} {W : World} (h : BoxV g vs W) : BoxV g vs (W.drewN n) := ⟨h.c, h.f, h.lt⟩
theorem filt1 {d x y : Int} {pb : Bool} (h : plB d x y = pb) : (Option.filter (fun p : Int × Int => plB d p.1 p.2) (some (x, y))).isSome = pb ∧ ∀ x' y', Option.filter (fun p : Int × Int => plB d p.1 p.2) (some (x, y)) = some (x', y') → x = x' ∧ y = y' := by
  subst h
  by_cases h : plB d x y = true
  · simp [Option.filter, h]
  · have h' : plB d x y = false := by simpa using h
    simp [Option.filter, h']
theorem unS_step {ts : List Int} {k : Nat} {t x y x0 y0 : Int} (h : ts[k]? = some t) : unS (ts.drop k) x y x0 y0 = if smB (t * x + x0) (t * y + y0) = true then unS (ts.drop (k + 1)) (t * x + x0) (t * y + y0) x y else none := by
  obtain ⟨h1, h2⟩ := List.getElem?_eq_some_iff.1 h
  rw [List.drop_eq_getElem_cons h1, h2]; rfl
theorem unS_end {ts : List Int} {k : Nat} {x y x0 y0 : Int} (h : ¬ k < ts.length) : unS (ts.drop k) x y x0 y0 = some (x, y) := by
  rw [List.drop_eq_nil_of_le (by omega)]; rfl
set_option maxRecDepth 100000 in
set_option maxHeartbeats 4000000 in
theorem l09Unit_any (d : Int) (w : World) (h1 : 2 ≤ d) (h2 : d ≤ 10000) (h3 : sqB d = false) :
    Calls Try.prog 197 #[.int .i64 d] w (RetUs w (unR d) (pdN d)) := by
  have hd : NoSq d := ⟨h1, by omega, h3⟩
  obtain ⟨n1, n2, _, _, hpd⟩ := pdN_spec h1 h2 h3
  obtain ⟨r1, r2⟩ := rt_99 h1 h2 h3
  have HWK : Hid (∀ W, Calls Try.prog 137 #[surdV 0 d 1] W fun e w' => ∃ g A c, e = .returned (.tuple #[.pointer (some ⟨g, 0, none⟩), .bool true]) ∧ Below W.heap.size W w' ∧ (∃ v0, BoxV g [v0, .slice A (pdN d + 1) c, .int .i64 1] w') ∧ W.heap.size ≤ g ∧ Wr (Value.int .i64) w' W.heap.size A (rtI d :: asL d (pdN d))) := fun W => by
    have h := l08Walk_any 0 d 1 W (next_root hd).2.2
    rw [hpd] at h
    refine h.mono ?_
    rintro e w' ⟨g, he, hb, hk⟩
    obtain ⟨A1, c1, A2, c2, q1, q2, q3, q4⟩ := hk _ _ rfl
    rw [cyL_terms hd] at q4
    have hlen : (cyL d (pdN d)).length = pdN d + 1 := by simp [cyL]
    rw [hlen] at q1
    exact ⟨g, A2, c2, he, hb, ⟨_, q1⟩, q2, q4⟩
  have HA : Hid (∀ j, j < pdN d → ∃ t, (rtI d :: asL d (pdN d))[j]? = some t ∧ (rtI d :: asL d (pdN d - 1))[j]? = some t ∧ 1 ≤ t ∧ t ≤ 2000) := fun j hj => by
    rcases j with _ | j
    · exact ⟨rtI d, rfl, rfl, by omega, by omega⟩
    · have e1 := asL_get (d := d) (n := pdN d) (j := j) (by omega)
      have e2 := asL_get (d := d) (n := pdN d - 1) (j := j) (by omega)
      exact ⟨_, by simpa using e1, by simpa using e2, asL_pos hd _ _ (List.mem_of_getElem? e1)⟩
  have hl : (rtI d :: asL d (pdN d - 1)).length = pdN d := by have := asL_length d (pdN d - 1); simp; omega
  have hl2 : (rtI d :: asL d (pdN d)).length = pdN d + 1 := by have := asL_length d (pdN d); simp; omega
  obtain ⟨U, hU⟩ : ∃ U, unS (rtI d :: asL d (pdN d - 1)) 1 0 0 1 = U := ⟨_, rfl⟩
  have hR : unR d = U.filter (fun p => plB d p.1 p.2) := by rw [unR_S h1 h2 h3, hU]
  have HU0 : Hid (unS ((rtI d :: asL d (pdN d - 1)).drop 0) 1 0 0 1 = U) := hU
  rw [hR]
  have HPP := Lib.hid (fun (x y : Int) (W : World) => l09Ok_any d x y W h1 h2)
  clear hR hU hd h3 hpd r1 r2
  generalize (rtI d :: asL d (pdN d - 1)) = ts at *
  generalize (rtI d :: asL d (pdN d)) = C at *
  generalize pdN d = n at *
  unfold surdV at HWK
  unfold pairV at HPP
  go_enter Try.func197, Try.ntmps197
  go_wp2_with fail
  refine (HWK.out _).mono ?_
  rintro e w1 ⟨g, A, c, rfl, hb1, ⟨v0, G1⟩, g2, g3⟩
  have B2 : BoxV w.heap.size [.int .i64 0, .int .i64 0] w1 := (BoxV.new w #[.int .i64 0, .int .i64 0] 154).next hb1
  have HB := Lib.hid (ext_trans (ext1 w (.cells #[.int .i64 0, .int .i64 0] 154)) hb1)
  obtain ⟨b, off, rfl, _, hbl, hc, _⟩ := g3 (by omega)
  have HC := Lib.hid hc
  have hwg : w.heap.size < g := by have h : w.heap.size + 1 ≤ g := by simpa using g2
                                   omega
  clear hc g3 hb1 g2
  have x1 := G1.at 1 _ rfl
  have x2 := G1.at 2 _ rfl
  have w0 : IntKind.i64.wrap (((n + 1 : Nat) : Int) - 1) = (n : Int) := by rw [IntWalk.i64_in _ (by omega)]; omega
  have w0' : IntKind.i64.wrap ((n : Int) + 1 - 1) = (n : Int) := by rw [IntWalk.i64_in _ (by omega)]; omega
  go_wp2_with fail
  go_quiet (fail)
  unfold cvV at *
  go_wp2_with fail
  refine (l03New_any _).mono ?_
  rintro e w3 ⟨rfl, hb3⟩
  have B3 := Lib.hid ((B2.drewN.next hb3).alloc (.cells #[.int .i64 1, .int .i64 0, .int .i64 0, .int .i64 1] 195))
  have HB3 := Lib.hid (ext_alloc (ext_trans (ext_drewN HB.out) hb3) (.cells #[.int .i64 1, .int .i64 0, .int .i64 0, .int .i64 1] 195))
  have G3 := Lib.hid ((G1.drewN.next hb3).alloc (.cells #[.int .i64 1, .int .i64 0, .int .i64 0, .int .i64 1] 195))
  have K3 := Lib.hid (BoxV.new w3 #[.int .i64 1, .int .i64 0, .int .i64 0, .int .i64 1] 195)
  have hwq : w.heap.size < w3.heap.size := (B2.drewN.next hb3).lt
  have hbl3 : b < w3.heap.size := Nat.lt_of_lt_of_le hbl hb3.size
  have hg3 : g < w3.heap.size := (G1.drewN.next hb3).lt
  have HC3 : Hid (∀ (j : Nat) (x : Int), C[j]? = some x → (w3.alloc (.cells #[.int .i64 1, .int .i64 0, .int .i64 0, .int .i64 1] 195)).cell? ⟨b, off + j, none⟩ = some (.int .i64 x)) := fun j x hx => ((ext_alloc hb3 (.cells #[.int .i64 1, .int .i64 0, .int .i64 0, .int .i64 1] 195)).cell (p := ⟨b, off + j, none⟩) hbl).trans (HC.out j x hx)
  clear B2 HB G1 HC hb3 hbl x1 x2
  go_wp2_with fail
  generalize hW0 : w3.alloc (.cells #[.int .i64 1, .int .i64 0, .int .i64 0, .int .i64 1] 195) = W0 at *
  clear hW0
  generalize w3.heap.size = q at *
  have hqW : q < W0.heap.size := K3.out.lt
  go_loopw [9] (fun t wr => ∃ (k : Nat) (x y x0 y0 : Int), k ≤ n ∧ t = .int .i64 k ∧ BoxV q [.int .i64 x, .int .i64 y, .int .i64 x0, .int .i64 y0] wr ∧ Hid (bil x ∧ bil y ∧ bil x0 ∧ bil y0) ∧ Hid (unS (ts.drop k) x y x0 y0 = U) ∧ Below q W0 wr) (fun t _ => n - (intOf t).toNat)
  case atStart => exact ⟨0, 1, 0, 0, 1, by omega, rfl, K3.out, ⟨⟨by omega, by omega⟩, ⟨by omega, by omega⟩, ⟨by omega, by omega⟩, ⟨by omega, by omega⟩⟩, HU0.out, Below.refl _ _⟩
  case round =>
    obtain ⟨k, x, y, x0, y0, hk, rfl, HK, HBD, HU, hbe⟩ := hrel
    clear HU0 K3
    by_cases hlt : k < n
    · obtain ⟨t, t1, t2, t3, t4⟩ := HA.out k hlt
      have c0 := (hbe.cell (p := ⟨b, off + k, none⟩) hbl3).trans (HC3.out k t t1)
      have GR := Lib.hid (G3.out.under hbe hg3)
      have x1 := GR.out.at 1 _ rfl
      have x2 := GR.out.at 2 _ rfl
      have z0 := HK.at 0 _ rfl
      have z1 := HK.at 1 _ rfl
      have z2 := HK.at 2 _ rfl
      have z3 := HK.at 3 _ rfl
      have HS := Lib.hid (unS_step (x := x) (y := y) (x0 := x0) (y0 := y0) t2)
      have hs8 := Lib.hid (fun W : World => l08Step_any x y x0 y0 t W HBD.out.1 HBD.out.2.1 HBD.out.2.2.1 HBD.out.2.2.2 ⟨by omega, by omega⟩)
      have i0 : (0 : Int) ≤ (k : Int) := by omega
      have i1 : (k : Int) < (n : Int) := by omega
      have i2 : (k : Int) < (n : Int) + 1 := by omega
      have i3 : (k : Int) < ((n + 1 : Nat) : Int) := by omega
      unfold cvV at hs8
      have HSB : Hid (smB (t * x + x0) (t * y + y0) = true → bil (t * x + x0) ∧ bil (t * y + y0)) := fun h => by
        obtain ⟨e1, e2⟩ := smB_true.1 h
        exact ⟨⟨by omega, by omega⟩, ⟨by omega, by omega⟩⟩
      have HK6 : Hid (∀ W', Below wr.heap.size wr W' → W'.cell? ⟨q, 0, none⟩ = some (.int .i64 x) ∧ W'.cell? ⟨q, 1, none⟩ = some (.int .i64 y) ∧ W'.cell? ⟨q, 2, none⟩ = some (.int .i64 x0) ∧ W'.cell? ⟨q, 3, none⟩ = some (.int .i64 y0) ∧ W'.cell? ⟨g, 1, none⟩ = some (.slice (some ⟨b, off, none⟩) (n + 1) c) ∧ W'.cell? ⟨b, off + k, none⟩ = some (.int .i64 t)) := fun W' hb => by
        have hq := HK.next hb
        have hg := GR.out.next hb
        exact ⟨hq.at 0 _ rfl, hq.at 1 _ rfl, hq.at 2 _ rfl, hq.at 3 _ rfl, hg.at 1 _ rfl, (hb.cell (p := ⟨b, off + k, none⟩) (Nat.lt_of_lt_of_le (Nat.lt_trans hbl3 hqW) hbe.size)).trans c0⟩
      generalize t * x + x0 = a at *
      generalize t * y + y0 = b' at *
      generalize hsm : smB a b' = sm at *
      clear t1 t2
      go_upto_region 7 with fail
      go_cut [10, 11] (fun u v wx => ∃ g5, u = .pointer (some ⟨g5, 0, none⟩) ∧ v = .bool sm ∧ BoxV g5 [.int .i64 a, .int .i64 b', .int .i64 x, .int .i64 y] wx ∧ Below wr.heap.size wr wx ∧ wr.heap.size ≤ g5)
      case first =>
        go_region_held3 (fun w' => w'.cell? ⟨q, 0, none⟩ = some (.int .i64 x) ∧ w'.cell? ⟨q, 1, none⟩ = some (.int .i64 y) ∧ w'.cell? ⟨q, 2, none⟩ = some (.int .i64 x0) ∧ w'.cell? ⟨q, 3, none⟩ = some (.int .i64 y0) ∧ w'.cell? ⟨g, 1, none⟩ = some (.slice (some ⟨b, off, none⟩) (n + 1) c) ∧ w'.cell? ⟨b, off + k, none⟩ = some (.int .i64 t))
          (first | exact HK6.out _ (by repeat (first | exact Below.refl _ _ | assumption | refine ext_set ?_ (by simp <;> omega) _ | refine ext_alloc ?_ _ | refine ext_drew ?_ | refine ext_trans ?_ (by assumption))))
          (first | (go_at_call 236; (with_reducible refine (hs8.out _).mono ?_); rintro e w5 ⟨rfl, hb5⟩; have y5 := hb5.size; (try simp at y5); (try have m0 := (hb5.cell (p := ⟨wr.heap.size, 0, none⟩) (by simp)).trans (cell_one wr.drew _ _ _)); (try have m1 := (hb5.cell (p := ⟨wr.heap.size, 1, none⟩) (by simp)).trans (cell_one wr.drew _ _ _)); (try have m2 := (hb5.cell (p := ⟨wr.heap.size, 2, none⟩) (by simp)).trans (cell_one wr.drew _ _ _)); (try have m3 := (hb5.cell (p := ⟨wr.heap.size, 3, none⟩) (by simp)).trans (cell_one wr.drew _ _ _)); (try have f0 := (hb5.frozen (p := ⟨wr.heap.size, 0, none⟩) (by simp)).trans (World.frozen?_alloc_at wr.drew _ _ _ rfl)); obtain ⟨hc5, hf5⟩ := bcell hb5))
        all_goals go_wp2_with fail
        all_goals go_meet
        all_goals first
          | exact ⟨w5.heap.size, rfl, rfl, BoxV.new w5 #[.int .i64 a, .int .i64 b', .int .i64 x, .int .i64 y] _, ext_alloc (ext_trans (ext_drew (Below.refl _ _)) hb5) _, by simpa using y5⟩
          | exact ⟨wr.heap.size, rfl, rfl, by simpa using (((((BoxV.new wr.drew #[.int .i64 0, .int .i64 0, .int .i64 0, .int .i64 0] _).next hb5).set 0 (.int .i64 a) (by simp)).set 1 (.int .i64 b') (by simp)).set 2 (.int .i64 x) (by simp)).set 3 (.int .i64 y) (by simp), ext_set (ext_set (ext_set (ext_set (ext_trans (ext_alloc (ext_drew (Below.refl _ _)) _) hb5) (by simp) _) (by simp) _) (by simp) _) (by simp) _, Nat.le_refl _⟩
      case rest =>
        obtain ⟨g5, rfl, rfl, B5, hb5, hg5⟩ := hcut
        have hqw : q < wr.heap.size := HK.lt
        have HBR : Hid (Below w.heap.size w wc) := ext_trans (HB3.out.trans (hbe.mono (by omega))) hb5
        cases sm
        · have hUN : Hid (U = none) := by
            have h := HU.out
            rw [HS.out] at h
            exact h.symm
          have BR := Lib.hid ((B3.out.under hbe hwq).next hb5)
          have y0 := BR.out.at 0 _ rfl
          have y1 := BR.out.at 1 _ rfl
          have F0 := BR.out.f 0
          have F1 := BR.out.f 1
          obtain ⟨s0, s1⟩ := set_two y0 y1
          go_wp2_with fail
          exact bodyPost_ret (v := .tuple #[pairV 0 0, .int .i64 n, .bool false]) (by simp [results, Try.results197, go_sem, s0, s1]; done) rfl ⟨0, 0, by rw [hUN.out]; rfl, (by rw [hUN.out]; intro x y h; cases h), ext_set (ext_set HBR.out (Nat.le_refl _) _) (Nat.le_refl _) _⟩
        · obtain ⟨⟨v1, v2⟩, ⟨v3, v4⟩⟩ := HSB.out rfl
          have HUN : Hid (unS (ts.drop (k + 1)) a b' x y = U) := by
            have h := HU.out
            rw [HS.out] at h
            exact h
          have KR := Lib.hid (HK.next hb5)
          have x5 := B5.at 0 _ rfl
          have x6 := B5.at 1 _ rfl
          have x7 := B5.at 2 _ rfl
          have x8 := B5.at 3 _ rfl
          have z0 := KR.out.at 0 _ rfl
          have z1 := KR.out.at 1 _ rfl
          have z2 := KR.out.at 2 _ rfl
          have z3 := KR.out.at 3 _ rfl
          have F0 := KR.out.f 0
          have F1 := KR.out.f 1
          have F2 := KR.out.f 2
          have F3 := KR.out.f 3
          go_wp2_with fail
          go_wp2
          go_roundw
          case rel => exact ⟨k + 1, a, b', x, y, by omega, by go_num, by simpa using (((KR.out.set 0 (.int .i64 a) (by simp)).set 1 (.int .i64 b') (by simp)).set 2 (.int .i64 x) (by simp)).set 3 (.int .i64 y) (by simp), ⟨⟨v1, v2⟩, ⟨v3, v4⟩, HBD.out.1, HBD.out.2.1⟩, HUN.out, (((((hbe.trans (hb5.mono (by omega))).setCell (by simp) _).setCell (by simp) _).setCell (by simp) _).setCell (by simp) _)⟩
          case measure => simp [intOf]; omega
    · have HF : Hid (U = some (x, y)) := by
        have h := HU.out
        rw [unS_end (by omega)] at h
        exact h.symm
      have j1 : ¬ (k : Int) < (n : Int) := by omega
      have HNN := Lib.hid (fun W : World => HPP.out x y W)
      have z0 := HK.at 0 _ rfl
      have z1 := HK.at 1 _ rfl
      have BR := Lib.hid (B3.out.under hbe hwq)
      have HBR : Hid (Below w.heap.size w wr) := HB3.out.trans (hbe.mono (by omega))
      obtain ⟨pb, hpb⟩ : ∃ pb, plB d x y = pb := ⟨_, rfl⟩
      have HFI := Lib.hid (filt1 (d := d) hpb)
      rw [hpb] at HNN
      clear hpb
      clear HU hbe
      go_wp2_with fail
      have B5 := BoxV.new wr #[.int .i64 x, .int .i64 y] 154
      have B4 := Lib.hid (BR.out.alloc (.cells #[.int .i64 x, .int .i64 y] 154))
      have HB4 := Lib.hid (ext_alloc HBR.out (.cells #[.int .i64 x, .int .i64 y] 154))
      have hgr : w.heap.size < wr.heap.size := BR.out.lt
      generalize wr.alloc (.cells #[.int .i64 x, .int .i64 y] 154) = W at *
      generalize wr.heap.size = g9 at *
      have x0' := B5.at 0 _ rfl
      have x1' := B5.at 1 _ rfl
      have H3 := Lib.hid (fun (W : World) (hb : BoxV g9 [.int .i64 x, .int .i64 y] W) => And.intro (hb.at 0 _ rfl) (hb.at 1 _ rfl))
      go_region_held3 (fun w' => w'.cell? ⟨g9, 0, none⟩ = some (.int .i64 x) ∧ w'.cell? ⟨g9, 1, none⟩ = some (.int .i64 y))
        (first | exact H3.out _ B5.drew | exact H3.out _ (B5.drew.next (by assumption)) | exact H3.out _ (((B5.drew.next hb4).setFar _ (by omega)).setFar _ (by omega)))
        (first | (go_at_call 237; (with_reducible refine (HNN.out _).mono ?_); rintro e w4 ⟨rfl, hb4⟩; have B6 := B4.out.drew.next hb4; have y0' := B6.at 0 _ rfl; have y1' := B6.at 1 _ rfl; have F0 := B6.f 0; have F1 := B6.f 1))
      obtain ⟨s0, s1⟩ := set_two y0' y1'
      go_wp2
      exact bodyPost_ret (v := .tuple #[pairV x y, .int .i64 n, .bool pb]) (by simp [results, Try.results197, go_sem, s0, s1]; done) rfl ⟨x, y, by rw [HF.out, HFI.out.1], (by rw [HF.out]; exact HFI.out.2), ext_set (ext_set (ext_trans (ext_drew HB4.out) hb4) (by simp) _) (by simp) _⟩
end Go.Proofs.Ytffocmhimkgfeaa
