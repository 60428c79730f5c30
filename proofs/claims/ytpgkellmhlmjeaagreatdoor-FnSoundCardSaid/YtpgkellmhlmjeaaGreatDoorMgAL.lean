/- Parts of the proof, merged: UnitTW CheckCW. No condition but those that each theorem names. -/
import Derived.Test.YtpgkellmhlmjeaaGreatDoorMgAK
import Derived.Deep.DeepCutAuto
import Derived.Test.YtpgkellmhlmjeaaGreatDoorMgAC
namespace Go.Proofs.YtpgkellmhlmjeaaGreatDoor
open Go.RowKit Go.Sort
/-- What the reference's call returns that makes the least unit. -/
def RetUs (w : World) (R : Option (Int × Int)) (n : Nat) (e : Ending) (w' : World) : Prop :=
  ∃ P0 P1 : Int, e = .returned (.tuple #[pairV P0 P1, .int .i64 n, .bool R.isSome]) ∧ (∀ x y, R = some (x, y) → P0 = x ∧ P1 = y) ∧ Below w.heap.size w w'
theorem ext_drewN {w w' : World} {n : Nat} (h : Below w.heap.size w w') : Below w.heap.size w (w'.drewN n) := by
  have h2 := ext_drew h
  exact ⟨h2.1, h2.2, h2.3, h2.4, h2.5⟩
theorem BoxV.drewN {g n : Nat} {vs : List Value} {W : World} (h : BoxV g vs W) : BoxV g vs (W.drewN n) := ⟨h.c, h.f, h.lt⟩
theorem filt1 {d x y : Int} {pb : Bool} (h : plB d x y = pb) : (Option.filter (fun p : Int × Int => plB d p.1 p.2) (some (x, y))).isSome = pb ∧ ∀ x' y', Option.filter (fun p : Int × Int => plB d p.1 p.2) (some (x, y)) = some (x', y') → x = x' ∧ y = y' := by
  subst h
  by_cases h : plB d x y = true
  · simp [Option.filter, h]
  · have h' : plB d x y = false := by simpa using h
    simp [Option.filter, h']
theorem unS_step {ts : List Int} {k : Nat} {t x y x0 y0 : Int} (h : ts[k]? = some t) : unS (ts.drop k) x y x0 y0 = if smB (t * x + x0) (t * y + y0) = true then unS (ts.drop (k + 1)) (t * x + x0) (t * y + y0) x y else none := by
  obtain ⟨h1, h2⟩ := List.getElem?_eq_some_iff.1 h
  rw [List.drop_eq_getElem_cons h1, h2]; rfl
theorem unS_end {ts : List Int} {k : Nat} {x y x0 y0 : Int} (h : ¬ k < ts.length) : unS (ts.drop k) x y x0 y0 = some (x, y) := by
  rw [List.drop_eq_nil_of_le (by omega)]; rfl
set_option maxRecDepth 100000 in
set_option maxHeartbeats 4000000 in
theorem l09Unit_any (d : Int) (w : World) (h1 : 2 ≤ d) (h2 : d ≤ 10000) (h3 : sqB d = false) :
    Calls Tryz.prog 41 #[.int .i64 d] w (RetUs w (unR d) (pdN d)) := by
  have hd : NoSq d := ⟨h1, by omega, h3⟩
  obtain ⟨n1, n2, _, _, hpd⟩ := pdN_spec h1 h2 h3
  obtain ⟨r1, r2⟩ := rt_99 h1 h2 h3
  have HWK : Hid (∀ W, Calls Tryz.prog 87 #[surdV 0 d 1] W fun e w' => ∃ g A c, e = .returned (.tuple #[.pointer (some ⟨g, 0, none⟩), .bool true]) ∧ Below W.heap.size W w' ∧ (∃ v0, BoxV g [v0, .slice A (pdN d + 1) c, .int .i64 1] w') ∧ W.heap.size ≤ g ∧ Wr (Value.int .i64) w' W.heap.size A (rtI d :: asL d (pdN d))) := fun W => by
    have h := l08Walk_any 0 d 1 W (next_root hd).2.2
    rw [hpd] at h
    refine h.mono ?_
    rintro e w' ⟨g, he, hb, hk⟩
    obtain ⟨A1, c1, A2, c2, q1, q2, q3, q4⟩ := hk _ _ rfl
    rw [cyL_terms hd] at q4
    have hlen : (cyL d (pdN d)).length = pdN d + 1 := by simp [cyL]
    rw [hlen] at q1
    exact ⟨g, A2, c2, he, hb, ⟨_, q1⟩, q2, q4⟩
  have HA : Hid (∀ j, j < pdN d → ∃ t, (rtI d :: asL d (pdN d))[j]? = some t ∧ (rtI d :: asL d (pdN d - 1))[j]? = some t ∧ 1 ≤ t ∧ t ≤ 2000) := fun j hj => by
    rcases j with _ | j
    · exact ⟨rtI d, rfl, rfl, by omega, by omega⟩
    · have e1 := asL_get (d := d) (n := pdN d) (j := j) (by omega)
      have e2 := asL_get (d := d) (n := pdN d - 1) (j := j) (by omega)
      exact ⟨_, by simpa using e1, by simpa using e2, asL_pos hd _ _ (List.mem_of_getElem? e1)⟩
  have hl : (rtI d :: asL d (pdN d - 1)).length = pdN d := by have := asL_length d (pdN d - 1); simp; omega
  have hl2 : (rtI d :: asL d (pdN d)).length = pdN d + 1 := by have := asL_length d (pdN d); simp; omega
  obtain ⟨U, hU⟩ : ∃ U, unS (rtI d :: asL d (pdN d - 1)) 1 0 0 1 = U := ⟨_, rfl⟩
  have hR : unR d = U.filter (fun p => plB d p.1 p.2) := by rw [unR_S h1 h2 h3, hU]
  have HU0 : Hid (unS ((rtI d :: asL d (pdN d - 1)).drop 0) 1 0 0 1 = U) := hU
  rw [hR]
  have HPP := Lib.hid (fun (x y : Int) (W : World) => l09Ok_any d x y W h1 h2)
  clear hR hU hd h3 hpd r1 r2
  generalize (rtI d :: asL d (pdN d - 1)) = ts at *
  generalize (rtI d :: asL d (pdN d)) = C at *
  generalize pdN d = n at *
  unfold surdV at HWK
  unfold pairV at HPP
  go_enter Tryz.func41, Tryz.ntmps41
  go_wp2_with fail
  refine (HWK.out _).mono ?_
  rintro e w1 ⟨g, A, c, rfl, hb1, ⟨v0, G1⟩, g2, g3⟩
  have B2 : BoxV w.heap.size [.int .i64 0, .int .i64 0] w1 := (BoxV.new w #[.int .i64 0, .int .i64 0] 34).next hb1
  have HB := Lib.hid (ext_trans (ext1 w (.cells #[.int .i64 0, .int .i64 0] 34)) hb1)
  obtain ⟨b, off, rfl, _, hbl, hc, _⟩ := g3 (by omega)
  have HC := Lib.hid hc
  have hwg : w.heap.size < g := by have h : w.heap.size + 1 ≤ g := by simpa using g2
                                   omega
  clear hc g3 hb1 g2
  have x1 := G1.at 1 _ rfl
  have x2 := G1.at 2 _ rfl
  have w0 : IntKind.i64.wrap (((n + 1 : Nat) : Int) - 1) = (n : Int) := by rw [IntWalk.i64_in _ (by omega)]; omega
  have w0' : IntKind.i64.wrap ((n : Int) + 1 - 1) = (n : Int) := by rw [IntWalk.i64_in _ (by omega)]; omega
  go_wp2_with fail
  go_quiet (fail)
  unfold cvV at *
  go_wp2_with fail
  refine (l03New_any _).mono ?_
  rintro e w3 ⟨rfl, hb3⟩
  have B3 := Lib.hid ((B2.drewN.next hb3).alloc (.cells #[.int .i64 1, .int .i64 0, .int .i64 0, .int .i64 1] 111))
  have HB3 := Lib.hid (ext_alloc (ext_trans (ext_drewN HB.out) hb3) (.cells #[.int .i64 1, .int .i64 0, .int .i64 0, .int .i64 1] 111))
  have G3 := Lib.hid ((G1.drewN.next hb3).alloc (.cells #[.int .i64 1, .int .i64 0, .int .i64 0, .int .i64 1] 111))
  have K3 := Lib.hid (BoxV.new w3 #[.int .i64 1, .int .i64 0, .int .i64 0, .int .i64 1] 111)
  have hwq : w.heap.size < w3.heap.size := (B2.drewN.next hb3).lt
  have hbl3 : b < w3.heap.size := Nat.lt_of_lt_of_le hbl hb3.size
  have hg3 : g < w3.heap.size := (G1.drewN.next hb3).lt
  have HC3 : Hid (∀ (j : Nat) (x : Int), C[j]? = some x → (w3.alloc (.cells #[.int .i64 1, .int .i64 0, .int .i64 0, .int .i64 1] 111)).cell? ⟨b, off + j, none⟩ = some (.int .i64 x)) := fun j x hx => ((ext_alloc hb3 (.cells #[.int .i64 1, .int .i64 0, .int .i64 0, .int .i64 1] 111)).cell (p := ⟨b, off + j, none⟩) hbl).trans (HC.out j x hx)
  clear B2 HB G1 HC hb3 hbl x1 x2
  go_wp2_with fail
  generalize hW0 : w3.alloc (.cells #[.int .i64 1, .int .i64 0, .int .i64 0, .int .i64 1] 111) = W0 at *
  clear hW0
  generalize w3.heap.size = q at *
  have hqW : q < W0.heap.size := K3.out.lt
  go_loopw [9] (fun t wr => ∃ (k : Nat) (x y x0 y0 : Int), k ≤ n ∧ t = .int .i64 k ∧ BoxV q [.int .i64 x, .int .i64 y, .int .i64 x0, .int .i64 y0] wr ∧ Hid (bil x ∧ bil y ∧ bil x0 ∧ bil y0) ∧ Hid (unS (ts.drop k) x y x0 y0 = U) ∧ Below q W0 wr) (fun t _ => n - (intOf t).toNat)
  case atStart => exact ⟨0, 1, 0, 0, 1, by omega, rfl, K3.out, ⟨⟨by omega, by omega⟩, ⟨by omega, by omega⟩, ⟨by omega, by omega⟩, ⟨by omega, by omega⟩⟩, HU0.out, Below.refl _ _⟩
  case round =>
    obtain ⟨k, x, y, x0, y0, hk, rfl, HK, HBD, HU, hbe⟩ := hrel
    clear HU0 K3
    by_cases hlt : k < n
    · obtain ⟨t, t1, t2, t3, t4⟩ := HA.out k hlt
      have c0 := (hbe.cell (p := ⟨b, off + k, none⟩) hbl3).trans (HC3.out k t t1)
      have GR := Lib.hid (G3.out.under hbe hg3)
      have x1 := GR.out.at 1 _ rfl
      have x2 := GR.out.at 2 _ rfl
      have z0 := HK.at 0 _ rfl
      have z1 := HK.at 1 _ rfl
      have z2 := HK.at 2 _ rfl
      have z3 := HK.at 3 _ rfl
      have HS := Lib.hid (unS_step (x := x) (y := y) (x0 := x0) (y0 := y0) t2)
      have hs8 := Lib.hid (fun W : World => l08Step_any x y x0 y0 t W HBD.out.1 HBD.out.2.1 HBD.out.2.2.1 HBD.out.2.2.2 ⟨by omega, by omega⟩)
      have i0 : (0 : Int) ≤ (k : Int) := by omega
      have i1 : (k : Int) < (n : Int) := by omega
      have i2 : (k : Int) < (n : Int) + 1 := by omega
      have i3 : (k : Int) < ((n + 1 : Nat) : Int) := by omega
      unfold cvV at hs8
      have HSB : Hid (smB (t * x + x0) (t * y + y0) = true → bil (t * x + x0) ∧ bil (t * y + y0)) := fun h => by
        obtain ⟨e1, e2⟩ := smB_true.1 h
        exact ⟨⟨by omega, by omega⟩, ⟨by omega, by omega⟩⟩
      have HK6 : Hid (∀ W', Below wr.heap.size wr W' → W'.cell? ⟨q, 0, none⟩ = some (.int .i64 x) ∧ W'.cell? ⟨q, 1, none⟩ = some (.int .i64 y) ∧ W'.cell? ⟨q, 2, none⟩ = some (.int .i64 x0) ∧ W'.cell? ⟨q, 3, none⟩ = some (.int .i64 y0) ∧ W'.cell? ⟨g, 1, none⟩ = some (.slice (some ⟨b, off, none⟩) (n + 1) c) ∧ W'.cell? ⟨b, off + k, none⟩ = some (.int .i64 t)) := fun W' hb => by
        have hq := HK.next hb
        have hg := GR.out.next hb
        exact ⟨hq.at 0 _ rfl, hq.at 1 _ rfl, hq.at 2 _ rfl, hq.at 3 _ rfl, hg.at 1 _ rfl, (hb.cell (p := ⟨b, off + k, none⟩) (Nat.lt_of_lt_of_le (Nat.lt_trans hbl3 hqW) hbe.size)).trans c0⟩
      generalize t * x + x0 = a at *
      generalize t * y + y0 = b' at *
      generalize hsm : smB a b' = sm at *
      clear t1 t2
      go_upto_region 7 with fail
      go_cut [10, 11] (fun u v wx => ∃ g5, u = .pointer (some ⟨g5, 0, none⟩) ∧ v = .bool sm ∧ BoxV g5 [.int .i64 a, .int .i64 b', .int .i64 x, .int .i64 y] wx ∧ Below wr.heap.size wr wx ∧ wr.heap.size ≤ g5)
      case first =>
        go_region_held3 (fun w' => w'.cell? ⟨q, 0, none⟩ = some (.int .i64 x) ∧ w'.cell? ⟨q, 1, none⟩ = some (.int .i64 y) ∧ w'.cell? ⟨q, 2, none⟩ = some (.int .i64 x0) ∧ w'.cell? ⟨q, 3, none⟩ = some (.int .i64 y0) ∧ w'.cell? ⟨g, 1, none⟩ = some (.slice (some ⟨b, off, none⟩) (n + 1) c) ∧ w'.cell? ⟨b, off + k, none⟩ = some (.int .i64 t))
          (first | exact HK6.out _ (by repeat (first | exact Below.refl _ _ | assumption | refine ext_set ?_ (by simp <;> omega) _ | refine ext_alloc ?_ _ | refine ext_drew ?_ | refine ext_trans ?_ (by assumption))))
          (first | (go_at_call 89; (with_reducible refine (hs8.out _).mono ?_); rintro e w5 ⟨rfl, hb5⟩; have y5 := hb5.size; (try simp at y5); (try have m0 := (hb5.cell (p := ⟨wr.heap.size, 0, none⟩) (by simp)).trans (cell_one wr.drew _ _ _)); (try have m1 := (hb5.cell (p := ⟨wr.heap.size, 1, none⟩) (by simp)).trans (cell_one wr.drew _ _ _)); (try have m2 := (hb5.cell (p := ⟨wr.heap.size, 2, none⟩) (by simp)).trans (cell_one wr.drew _ _ _)); (try have m3 := (hb5.cell (p := ⟨wr.heap.size, 3, none⟩) (by simp)).trans (cell_one wr.drew _ _ _)); (try have f0 := (hb5.frozen (p := ⟨wr.heap.size, 0, none⟩) (by simp)).trans (World.frozen?_alloc_at wr.drew _ _ _ rfl)); obtain ⟨hc5, hf5⟩ := bcell hb5))
        all_goals go_wp2_with fail
        all_goals go_meet
        all_goals first
          | exact ⟨w5.heap.size, rfl, rfl, BoxV.new w5 #[.int .i64 a, .int .i64 b', .int .i64 x, .int .i64 y] _, ext_alloc (ext_trans (ext_drew (Below.refl _ _)) hb5) _, by simpa using y5⟩
          | exact ⟨wr.heap.size, rfl, rfl, by simpa using (((((BoxV.new wr.drew #[.int .i64 0, .int .i64 0, .int .i64 0, .int .i64 0] _).next hb5).set 0 (.int .i64 a) (by simp)).set 1 (.int .i64 b') (by simp)).set 2 (.int .i64 x) (by simp)).set 3 (.int .i64 y) (by simp), ext_set (ext_set (ext_set (ext_set (ext_trans (ext_alloc (ext_drew (Below.refl _ _)) _) hb5) (by simp) _) (by simp) _) (by simp) _) (by simp) _, Nat.le_refl _⟩
      case rest =>
        obtain ⟨g5, rfl, rfl, B5, hb5, hg5⟩ := hcut
        have hqw : q < wr.heap.size := HK.lt
        have HBR : Hid (Below w.heap.size w wc) := ext_trans (HB3.out.trans (hbe.mono (by omega))) hb5
        cases sm
        · have hUN : Hid (U = none) := by
            have h := HU.out
            rw [HS.out] at h
            exact h.symm
          have BR := Lib.hid ((B3.out.under hbe hwq).next hb5)
          have y0 := BR.out.at 0 _ rfl
          have y1 := BR.out.at 1 _ rfl
          have F0 := BR.out.f 0
          have F1 := BR.out.f 1
          obtain ⟨s0, s1⟩ := set_two y0 y1
          go_wp2_with fail
          exact bodyPost_ret (v := .tuple #[pairV 0 0, .int .i64 n, .bool false]) (by simp [results, Tryz.results41, go_sem, s0, s1]; done) rfl ⟨0, 0, by rw [hUN.out]; rfl, (by rw [hUN.out]; intro x y h; cases h), ext_set (ext_set HBR.out (Nat.le_refl _) _) (Nat.le_refl _) _⟩
        · obtain ⟨⟨v1, v2⟩, ⟨v3, v4⟩⟩ := HSB.out rfl
          have HUN : Hid (unS (ts.drop (k + 1)) a b' x y = U) := by
            have h := HU.out
            rw [HS.out] at h
            exact h
          have KR := Lib.hid (HK.next hb5)
          have x5 := B5.at 0 _ rfl
          have x6 := B5.at 1 _ rfl
          have x7 := B5.at 2 _ rfl
          have x8 := B5.at 3 _ rfl
          have z0 := KR.out.at 0 _ rfl
          have z1 := KR.out.at 1 _ rfl
          have z2 := KR.out.at 2 _ rfl
          have z3 := KR.out.at 3 _ rfl
          have F0 := KR.out.f 0
          have F1 := KR.out.f 1
          have F2 := KR.out.f 2
          have F3 := KR.out.f 3
          go_wp2_with fail
          go_wp2
          go_roundw
          case rel => exact ⟨k + 1, a, b', x, y, by omega, by go_num, by simpa using (((KR.out.set 0 (.int .i64 a) (by simp)).set 1 (.int .i64 b') (by simp)).set 2 (.int .i64 x) (by simp)).set 3 (.int .i64 y) (by simp), ⟨⟨v1, v2⟩, ⟨v3, v4⟩, HBD.out.1, HBD.out.2.1⟩, HUN.out, (((((hbe.trans (hb5.mono (by omega))).setCell (by simp) _).setCell (by simp) _).setCell (by simp) _).setCell (by simp) _)⟩
          case measure => simp [intOf]; omega
    · have HF : Hid (U = some (x, y)) := by
        have h := HU.out
        rw [unS_end (by omega)] at h
        exact h.symm
      have j1 : ¬ (k : Int) < (n : Int) := by omega
      have HNN := Lib.hid (fun W : World => HPP.out x y W)
      have z0 := HK.at 0 _ rfl
      have z1 := HK.at 1 _ rfl
      have BR := Lib.hid (B3.out.under hbe hwq)
      have HBR : Hid (Below w.heap.size w wr) := HB3.out.trans (hbe.mono (by omega))
      obtain ⟨pb, hpb⟩ : ∃ pb, plB d x y = pb := ⟨_, rfl⟩
      have HFI := Lib.hid (filt1 (d := d) hpb)
      rw [hpb] at HNN
      clear hpb
      clear HU hbe
      go_wp2_with fail
      have B5 := BoxV.new wr #[.int .i64 x, .int .i64 y] 34
      have B4 := Lib.hid (BR.out.alloc (.cells #[.int .i64 x, .int .i64 y] 34))
      have HB4 := Lib.hid (ext_alloc HBR.out (.cells #[.int .i64 x, .int .i64 y] 34))
      have hgr : w.heap.size < wr.heap.size := BR.out.lt
      generalize wr.alloc (.cells #[.int .i64 x, .int .i64 y] 34) = W at *
      generalize wr.heap.size = g9 at *
      have x0' := B5.at 0 _ rfl
      have x1' := B5.at 1 _ rfl
      have H3 := Lib.hid (fun (W : World) (hb : BoxV g9 [.int .i64 x, .int .i64 y] W) => And.intro (hb.at 0 _ rfl) (hb.at 1 _ rfl))
      go_region_held3 (fun w' => w'.cell? ⟨g9, 0, none⟩ = some (.int .i64 x) ∧ w'.cell? ⟨g9, 1, none⟩ = some (.int .i64 y))
        (first | exact H3.out _ B5.drew | exact H3.out _ (B5.drew.next (by assumption)) | exact H3.out _ (((B5.drew.next hb4).setFar _ (by omega)).setFar _ (by omega)))
        (first | (go_at_call 90; (with_reducible refine (HNN.out _).mono ?_); rintro e w4 ⟨rfl, hb4⟩; have B6 := B4.out.drew.next hb4; have y0' := B6.at 0 _ rfl; have y1' := B6.at 1 _ rfl; have F0 := B6.f 0; have F1 := B6.f 1))
      obtain ⟨s0, s1⟩ := set_two y0' y1'
      go_wp2
      exact bodyPost_ret (v := .tuple #[pairV x y, .int .i64 n, .bool pb]) (by simp [results, Tryz.results41, go_sem, s0, s1]; done) rfl ⟨x, y, by rw [HF.out, HFI.out.1], (by rw [HF.out]; exact HFI.out.2), ext_set (ext_set (ext_trans (ext_drew HB4.out) hb4) (by simp) _) (by simp) _⟩
end Go.Proofs.YtpgkellmhlmjeaaGreatDoor
namespace Go.Proofs.YtpgkellmhlmjeaaGreatDoor
open Go.RowKit Go.Sort
theorem getD_ofC {xs : List Int} {k : Nat} (h : k < xs.length) : xs[k]? = some (xs.getD k 0) := by
  rw [List.getD_eq_getElem?_getD, List.getElem?_eq_getElem h]; rfl
theorem getD_ofL {L : List Sd} {k : Nat} (h : k < L.length) : L[k]? = some (L.getD k (0, 0, 0)) := by
  rw [List.getD_eq_getElem?_getD, List.getElem?_eq_getElem h]; rfl
theorem drop_get {xs : List Int} {j k : Nat} {x : Int} (h : (xs.drop k)[j]? = some x) : xs[k + j]? = some x := by rwa [List.getElem?_drop] at h
theorem drop_rd {w : World} {b off k B : Nat} {xs : List Int} (hb : b < B) (hc : ∀ j x, xs[j]? = some x → w.cell? ⟨b, off + j, none⟩ = some (Value.int .i64 x)) : Rd (Value.int .i64) w B (some ⟨b, off + k, none⟩) (xs.drop k) := fun _ =>
  ⟨b, off + k, rfl, hb, fun j x hx => by
    have := hc (k + j) x (drop_get hx)
    rwa [← Nat.add_assoc] at this⟩
theorem drop_bd {xs : List Int} {k : Nat} (hb : ∀ x ∈ xs, -1000000000 ≤ x ∧ x ≤ 1000000000) : ∀ x ∈ xs.drop k, bil x := fun x hx => hb x (List.mem_of_mem_drop hx)
theorem surdsBy_none {p d q : Int} {A : Option Addr} {c n : Nat} {ts : List Int} {w : World} (hx : Rd (Value.int .i64) w w.heap.size A ts) (hl : ts.length ≤ 1000) (hn : n = ts.length) (h : along (p, d, q) ts = none) :
    Calls Tryz.prog 71 #[surdV p d q, .slice A n c] w fun e w' => ∃ A5 c5, e = .returned (.tuple #[.slice A5 0 c5, .bool false]) ∧ Below w.heap.size w w' := by
  subst hn
  have := surdsBy_any p d q A c ts w hx hl
  rw [h] at this
  exact this.mono fun _ _ ⟨A5, c5, h1, _, _, h2⟩ => ⟨A5, c5, h1, h2⟩
theorem surdsBy_some {p d q : Int} {A : Option Addr} {c n : Nat} {ts : List Int} {w : World} {L : List Sd} (hx : Rd (Value.int .i64) w w.heap.size A ts) (hl : ts.length ≤ 1000) (hn : n = ts.length) (h : along (p, d, q) ts = some L) (m : Nat) (hm : L.length = m) :
    Calls Tryz.prog 71 #[surdV p d q, .slice A n c] w fun e w' => ∃ A5 c5, e = .returned (.tuple #[.slice A5 m c5, .bool true]) ∧ Wr (Value.int .i64) w' w.heap.size A5 (sdL L) ∧ (m ≤ c5 ∧ c5 ≤ maxLen) ∧ Below w.heap.size w w' := by
  subst hn
  have := surdsBy_any p d q A c ts w hx hl
  rw [h] at this
  subst hm
  exact this
set_option maxRecDepth 100000 in
set_option maxHeartbeats 4000000 in
theorem checkUnit_any (A : Option Addr) (c : Nat) (xs : List Int) (w : World) (hx : RdC w w.heap.size A c xs) (hb : ∀ x ∈ xs, -1000000000 ≤ x ∧ x ≤ 1000000000) (hm : xs.length ≤ 420) :
    Calls Tryz.prog 32 #[.slice A xs.length c] w fun e w' => e = .returned (.bool (unB xs)) ∧ Below w.heap.size w w' := by
  obtain ⟨hx1, hx2, hx3⟩ := hx
  unfold maxLen at hx3
  have HU : Hid (unB xs = (decide (4 ≤ xs.length) && (inR (xs.getD 0 0) 2 10000 && (match along (0, xs.getD 0 0, 1) (xs.drop 3) with
    | none => false
    | some L => midQ L && (lastQ L && (mtxLast (xs.drop 3) == some (xs.getD 1 0, xs.getD 2 0))))))) := rfl
  by_cases h4 : 4 ≤ xs.length
  · rw [decide_eq_true h4, Bool.true_and] at HU
    have d4 : decide ((xs.length : Int) < 4) = false := by simp; omega
    obtain ⟨b, off, rfl, hbl, hc⟩ := hx1 (by omega)
    have c0 := hc 0 _ (getD_ofC (show 0 < xs.length by omega))
    have c1 := hc 1 _ (getD_ofC (show 1 < xs.length by omega))
    have c2 := hc 2 _ (getD_ofC (show 2 < xs.length by omega))
    rw [Nat.add_zero] at c0
    have hd := hb _ (List.mem_of_getElem? (getD_ofC (show 0 < xs.length by omega)))
    have HRD : Hid (∀ W, Below w.heap.size w W → Rd (Value.int .i64) W W.heap.size (some ⟨b, off + 3, none⟩) (xs.drop 3)) := fun W hW => ((drop_rd hbl hc).below hW).more hW.size
    have HCK : Hid (∀ W, Below w.heap.size w W → W.cell? ⟨b, off, none⟩ = some (.int .i64 (xs.getD 0 0)) ∧ W.cell? ⟨b, off + 1, none⟩ = some (.int .i64 (xs.getD 1 0)) ∧ W.cell? ⟨b, off + 2, none⟩ = some (.int .i64 (xs.getD 2 0))) := fun W hW => ⟨(hW.cell (p := ⟨b, off, none⟩) hbl).trans c0, (hW.cell (p := ⟨b, off + 1, none⟩) hbl).trans c1, (hW.cell (p := ⟨b, off + 2, none⟩) hbl).trans c2⟩
    have HDB : Hid (∀ x ∈ xs.drop 3, bil x) := drop_bd hb
    have HLD : Hid (xs.length - 3 = (xs.drop 3).length) := by simp [Hid]
    have hds : (xs.drop 3).length ≤ 1000 := by rw [List.length_drop]; omega
    have j3 : (3 : Int) ≤ (xs.length : Int) := by omega
    have n0 : 0 < xs.length := by omega
    have nc3 : ¬ (c = 3) := by omega
    have n1 : 1 < xs.length := by omega
    have n2 : 2 < xs.length := by omega
    have j3c : (3 : Int) ≤ (c : Int) := by omega
    have jlc : (xs.length : Int) ≤ (c : Int) := by omega
    clear hc hb hx1 c1 c2
    generalize xs.getD 0 0 = d at *
    generalize xs.getD 1 0 = x1 at *
    generalize xs.getD 2 0 = x2 at *
    obtain ⟨D1, D2⟩ := hd
    cases hin : inR d 2 10000
    · rw [hin, Bool.false_and] at HU
      rw [HU.out]
      go_enter Tryz.func32, Tryz.ntmps32
      go_wp2_with (go_at_call 70; (with_reducible refine (within_is hin _).mono ?_); rintro e w' ⟨rfl, rfl⟩)
      go_ret
      exact ⟨rfl, Below.refl _ _⟩
    · rw [hin, Bool.true_and] at HU
      have HIN := Lib.hid hin
      clear hin
      have ED := Lib.hid (ext_drew (Below.refl w.heap.size w))
      have HBB : Hid (Below w.heap.size w w) := Below.refl _ _
      rcases Option.eq_none_or_eq_some (along (0, d, 1) (xs.drop 3)) with hR | ⟨L, hR⟩
      · rw [hR] at HU
        have HSB := Lib.hid (surdsBy_none (c := c - 3) (HRD.out _ ED.out) hds HLD.out hR)
        rw [HU.out]
        unfold surdV at HSB
        clear hR HU
        go_enter Tryz.func32, Tryz.ntmps32
        go_wp2_with (go_at_call 70; (with_reducible refine (within_is HIN.out _).mono ?_); rintro e w' ⟨rfl, rfl⟩)
        go_region_held3 (fun w' => w'.cell? ⟨b, off, none⟩ = some (.int .i64 d))
          (first | exact (HCK.out _ ED.out).1 | exact (HCK.out _ (ext_trans ED.out hb5)).1)
          (first | (go_at_call 71; (with_reducible refine HSB.out.mono ?_); rintro e w5 ⟨A5, c5, rfl, hb5⟩))
        all_goals
          have HB5 := Lib.hid (ext_trans ED.out hb5)
          clear hb5
          go_wp2
          go_ret
          exact ⟨rfl, HB5.out⟩
      · rw [hR] at HU
        have HNS := Lib.hid (noSq_of HIN.out hR)
        have HTP := Lib.hid (along_pos HNS.out hR)
        have hLl := along_len hR
        obtain ⟨m, hLm⟩ : ∃ m, L.length = m + 2 := ⟨xs.length - 4, by rw [hLl, List.length_drop]; omega⟩
        have hml : (xs.drop 3).length = m + 1 := by omega
        have HSB := Lib.hid (surdsBy_some (c := c - 3) (HRD.out _ ED.out) hds HLD.out hR (m + 2) hLm)
        obtain ⟨HC1, HC2⟩ := And.intro (Lib.hid (convs_last HTP.out).1) (Lib.hid (convs_last HTP.out).2)
        have HCV : Hid (∀ W, Below w.heap.size w W → Calls Tryz.prog 72 #[.slice (some ⟨b, off + 3, none⟩) (xs.length - 3) (c - 3)] W (RetCv W (convs (xs.drop 3)))) := fun W hW => by
          have := convergents_any (some ⟨b, off + 3, none⟩) (c - 3) (xs.drop 3) W (HRD.out W hW) (by omega) HDB.out
          rwa [← HLD.out] at this
        have HLM := Lib.hid hLm
        have HML := Lib.hid hml
        have hmb : m ≤ 420 := by rw [List.length_drop] at hml; omega
        unfold surdV at HSB
        clear hR hLl hLm hml hds
        go_enter Tryz.func32, Tryz.ntmps32
        go_wp2_with (go_at_call 70; (with_reducible refine (within_is HIN.out _).mono ?_); rintro e w' ⟨rfl, rfl⟩)
        go_region_held3 (fun w' => w'.cell? ⟨b, off, none⟩ = some (.int .i64 d))
          (first | exact (HCK.out _ ED.out).1 | exact (HCK.out _ (ext_trans ED.out hb5)).1)
          (first | (go_at_call 71; (with_reducible refine HSB.out.mono ?_); rintro e w5 ⟨A5, c5, rfl, hw5, ⟨hc5, hc5m⟩, hb5⟩))
        obtain ⟨b5, off5, rfl, hb5l, hb5h, hcc5, _⟩ := hw5 (by rw [sdL_length, HLM.out]; omega)
        have HB5 := Lib.hid (ext_trans ED.out hb5)
        have HCC := Lib.hid hcc5
        unfold maxLen at hc5m
        clear hb5 hcc5 HSB c0
        have jm1 : (1 : Int) ≤ (m : Int) + 1 := by omega
        have nc5 : ¬ (c5 = 1) := by omega
        have jm2 : (m : Int) + 1 ≤ (c5 : Int) := by omega
        go_wp2_with fail
        go_loopw [39] (fun t wr => ∃ k : Nat, k ≤ m ∧ t = .int .i64 k ∧ Hid (allK (midP L) k = true) ∧ Hid (Below w5.heap.size w5 wr)) (fun t _ => m - (intOf t).toNat)
        case atStart => exact ⟨0, by omega, rfl, rfl, Below.refl _ _⟩
        case round =>
          obtain ⟨k, hk, rfl, HK, HB6⟩ := hrel
          by_cases hlt : k < m
          · obtain ⟨g0, g1, g2⟩ := sdL_get (getD_ofL (show k + 1 < L.length by rw [HLM.out]; omega))
            have y0 := (HB6.out.cell (p := ⟨b5, off5 + (k + 1) * 3, none⟩) hb5h).trans (HCC.out _ _ g0)
            have y1 := (HB6.out.cell (p := ⟨b5, off5 + ((k + 1) * 3 + 1), none⟩) hb5h).trans (HCC.out _ _ g1)
            have y2 := (HB6.out.cell (p := ⟨b5, off5 + ((k + 1) * 3 + 2), none⟩) hb5h).trans (HCC.out _ _ g2)
            rw [show off5 + (k + 1) * 3 = off5 + 3 + k * 3 by omega] at y0
            rw [show off5 + ((k + 1) * 3 + 1) = off5 + 3 + k * 3 + 1 by omega] at y1
            rw [show off5 + ((k + 1) * 3 + 2) = off5 + 3 + k * 3 + 2 by omega] at y2
            have HQ : Hid (midP L k = ((L.getD (k + 1) (0, 0, 0)).2.2 != 1)) := rfl
            have HM : Hid (midP L k = false → midQ L = false) := fun h => allK_false h _ (by rw [HLM.out]; omega)
            have i0 : (0 : Int) ≤ (k : Int) := by omega
            have i1 : (k : Int) < (m : Int) := by omega
            have i2 : (k : Int) < ((m + 2 - 1 - 1 : Nat) : Int) := by omega
            have i3 : k < m + 2 - 1 - 1 := by omega
            clear g0 g1 g2
            generalize (L.getD (k + 1) (0, 0, 0)).1 = s1 at *
            generalize (L.getD (k + 1) (0, 0, 0)).2.1 = s2 at *
            generalize (L.getD (k + 1) (0, 0, 0)).2.2 = s3 at *
            by_cases hq : s3 = 1
            · have q1 : (s3 == 1) = true := by simpa using hq
              have HE : Hid (unB xs = false) := by
                unfold Hid
                rw [HU.out]
                have h1 := HM.out (by rw [HQ.out, hq]; rfl)
                simp only [h1, Bool.false_and]
              clear hq HQ HM
              go_wp2
              go_ret
              exact ⟨ret_bool HE.out.symm, ext_alloc (HB5.out.trans (HB6.out.mono HB5.out.size)) _⟩
            · have q1 : (s3 == 1) = false := by simpa using hq
              have HE := Lib.hid (allK_succ HK.out (show midP L k = true by rw [HQ.out]; simpa using hq))
              clear hq HQ HM
              go_wp2
              go_roundw
              case rel => exact ⟨k + 1, by omega, by go_num, HE.out, HB6.out.alloc HB6.out.size _⟩
              case measure => simp [intOf]; omega
          · have HMQ : Hid (midQ L = true) := by
              have h := HK.out
              unfold Hid midQ
              rw [HLM.out, show m + 2 - 2 = k by omega]
              exact h
            have i1 : ¬ (k : Int) < (m : Int) := by omega
            have E6 := Lib.hid (HB5.out.trans (HB6.out.mono HB5.out.size))
            have HUU : Hid (unB xs = (lastQ L && (mtxLast (xs.drop 3) == some (x1, x2)))) := by
              unfold Hid
              rw [HU.out]
              simp only [HMQ.out, Bool.true_and]
            obtain ⟨g0, g1, g2⟩ := sdL_get (getD_ofL (show m + 1 < L.length by rw [HLM.out]; omega))
            have HCQ : Hid (∀ W, Below wr.heap.size wr W → W.cell? ⟨b5, off5 + (m + 1) * 3 + 2, none⟩ = some (.int .i64 (qS L (m + 1)))) := fun W hW => by
              have h1 := (HB6.out.cell (p := ⟨b5, off5 + ((m + 1) * 3 + 2), none⟩) hb5h).trans (HCC.out _ _ g2)
              rw [← Nat.add_assoc] at h1
              exact (hW.cell (p := ⟨b5, off5 + (m + 1) * 3 + 2, none⟩) (Nat.lt_of_lt_of_le hb5h HB6.out.size)).trans h1
            have HLQ : Hid (lastQ L = (qS L (m + 1) == 1)) := by unfold Hid lastQ; rw [HLM.out]; rfl
            rw [HLQ.out] at HUU
            clear g0 g1 g2 HK HCC HLQ HU
            generalize qS L (m + 1) = ql at *
            have HCW := Lib.hid (HCV.out _ E6.out)
            have q3 := Tryz.eqGuardType41
            have q4 := Tryz.stoodInHeld41
            have i4 : (m : Int) + 1 < (m : Int) + 2 := by omega
            have i5 : m + 1 < m + 2 := by omega
            rcases Option.eq_none_or_eq_some (convs (xs.drop 3)) with hF | ⟨F, hF⟩
            · have HE : Hid (unB xs = false) := by
                have h1 := HC1.out
                rw [hF] at h1
                have h2 : mtxLast (xs.drop 3) = none := by
                  cases h3 : mtxLast (xs.drop 3) with
                  | none => rfl
                  | some _ => rw [h3] at h1; cases h1
                unfold Hid
                rw [HUU.out, h2]
                simp
              rw [hF] at HCW
              clear hF HUU
              go_wp2_with fail
              refine HCW.out.mono ?_
              rintro e w7 ⟨A7, c7, rfl, hw7, hb7⟩
              have k0 : ∀ x os, (grow (redrawn w7 x) os).cell? ⟨b5, off5 + (m + 1) * 3 + 2, none⟩ = some (.int .i64 ql) := cell_regrown (HCQ.out _ hb7)
              have E7 := Lib.hid (ext_trans E6.out hb7)
              clear hb7 hw7
              cases hq : (ql == 1)
              all_goals
                go_wp2_with fail
                refine wp_region_quiet_below (by kernel_rfl) (by kernel_rfl) ?_
                repeat (first | go_big_quiet_step (fail) | quiet_step (fail))
                refine wpQuiet_nil ?_
                intro _ hw'
                obtain ⟨⟨dq, oq⟩, hw''⟩ := hw'
                subst hw''
                go_wp2
                go_ret
                exact ⟨ret_bool HE.out.symm, ext_trans E7.out (below_regrown _ _ _)⟩
            · obtain ⟨hFl, hFm⟩ := HC2.out F hF
              have hF1 : F.length = m + 1 := by rw [hFl, HML.out]
              obtain ⟨⟨f1, f2⟩, hfk⟩ : ∃ f, F[m]? = some f := ⟨_, List.getElem?_eq_getElem (by omega)⟩
              have hmt := hFm m (f1, f2) (by rw [HML.out]) hfk
              rw [hmt] at HUU
              obtain ⟨g0, g1⟩ := frL_get hfk
              rw [hF] at HCW
              unfold RetCv at HCW
              simp only [Option.getD_some, Option.isSome_some, hF1] at HCW
              have HFL : Hid (0 < (frL F).length) := by unfold Hid; rw [frL_length, hF1]; omega
              clear hF hFl hFm hmt hfk hF1
              go_wp2_with fail
              refine HCW.out.mono ?_
              rintro e w7 ⟨A7, c7, rfl, hw7, hb7⟩
              obtain ⟨b7, off7, rfl, _, hb7h, hc7, _⟩ := hw7 HFL.out
              have z0 := hc7 _ _ g0
              have z1 := hc7 _ _ g1
              rw [← Nat.add_assoc] at z1
              have E7 := Lib.hid (ext_trans E6.out hb7)
              have k0 : ∀ x os, (grow (redrawn w7 x) os).cell? ⟨b5, off5 + (m + 1) * 3 + 2, none⟩ = some (.int .i64 ql) := cell_regrown (HCQ.out _ hb7)
              have k1 : ∀ x os, (grow (redrawn w7 x) os).cell? ⟨b7, off7 + m * 2, none⟩ = some (.int .i64 f1) := cell_regrown z0
              have k2 : ∀ x os, (grow (redrawn w7 x) os).cell? ⟨b7, off7 + m * 2 + 1, none⟩ = some (.int .i64 f2) := cell_regrown z1
              have k3 : ∀ x os, (grow (redrawn w7 x) os).cell? ⟨b, off + 1, none⟩ = some (.int .i64 x1) := cell_regrown (HCK.out _ E7.out).2.1
              have k4 : ∀ x os, (grow (redrawn w7 x) os).cell? ⟨b, off + 2, none⟩ = some (.int .i64 x2) := cell_regrown (HCK.out _ E7.out).2.2
              have i6 : (m : Int) < (m : Int) + 1 := by omega
              have i7 : m < m + 1 := by omega
              have w0 : IntKind.i64.wrap ((m : Int) + 2 - 1 - 1) = (m : Int) := by rw [IntWalk.i64_in _ (by omega)]; omega
              have w1 : IntKind.i64.wrap ((m : Int) + 1 - 1) = (m : Int) := by rw [IntWalk.i64_in _ (by omega)]; omega
              have w2 : IntKind.i64.wrap (m : Int) = (m : Int) := IntWalk.i64_in _ (by omega)
              have HV : Hid ((some (f1, f2) == some (x1, x2)) = ((f1 == x1) && (f2 == x2))) := by
                unfold Hid
                rw [Bool.eq_iff_iff]
                simp
              rw [HV.out] at HUU
              clear hb7 hw7 hc7 g0 g1 z0 z1 HCW HFL
              cases hq : (ql == 1)
              · go_wp2_with fail
                refine wp_region_quiet_below (by kernel_rfl) (by kernel_rfl) ?_
                repeat (first | go_big_quiet_step (fail) | quiet_step (fail))
                refine wpQuiet_nil ?_
                intro _ hw'
                obtain ⟨⟨dq, oq⟩, hw''⟩ := hw'
                subst hw''
                go_wp2
                go_ret
                exact ⟨ret_bool (by rw [HUU.out, hq]; rfl), ext_trans E7.out (below_regrown _ _ _)⟩
              · cases he1 : (f1 == x1)
                · go_wp2_with fail
                  refine wp_region_quiet_below (by kernel_rfl) (by kernel_rfl) ?_
                  repeat (first | go_big_quiet_step (fail) | quiet_step (fail))
                  refine wpQuiet_nil ?_
                  intro _ hw'
                  obtain ⟨⟨dq, oq⟩, hw''⟩ := hw'
                  subst hw''
                  go_wp2
                  go_ret
                  exact ⟨ret_bool (by rw [HUU.out, hq, he1]; rfl), ext_trans E7.out (below_regrown _ _ _)⟩
                · cases he2 : (f2 == x2)
                  all_goals
                    go_wp2_with fail
                    refine wp_region_quiet_below (by kernel_rfl) (by kernel_rfl) ?_
                    repeat (first | go_big_quiet_step (fail) | quiet_step (fail))
                    refine wpQuiet_nil ?_
                    intro _ hw'
                    obtain ⟨⟨dq, oq⟩, hw''⟩ := hw'
                    subst hw''
                    go_wp2
                    go_ret
                    exact ⟨ret_bool (by rw [HUU.out, hq, he1, he2]; rfl), ext_trans E7.out (below_regrown _ _ _)⟩
  · have HE : Hid (unB xs = false) := by rw [HU.out, decide_eq_false h4]; rfl
    have d4 : decide ((xs.length : Int) < 4) = true := by simp; omega
    rw [HE.out]
    go_enter Tryz.func32, Tryz.ntmps32
    go_wp2
    go_ret
    exact ⟨rfl, Below.refl _ _⟩
end Go.Proofs.YtpgkellmhlmjeaaGreatDoor
