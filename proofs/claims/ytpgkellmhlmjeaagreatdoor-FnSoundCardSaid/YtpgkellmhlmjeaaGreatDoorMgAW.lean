/- Parts of the proof, merged: UnitVW LstW SeeW RunW. No condition but those that each theorem names. -/
import Derived.Test.YtpgkellmhlmjeaaGreatDoorMgAM
import Derived.Test.YtpgkellmhlmjeaaGreatDoorMgAV
import Derived.Test.YtpgkellmhlmjeaaGreatDoorMgAU
import Derived.Test.YtpgkellmhlmjeaaGreatDoorMgAO
import Derived.Test.YtpgkellmhlmjeaaGreatDoorMgAE
import Derived.Test.YtpgkellmhlmjeaaGreatDoorMgAC
import Derived.Test.YtpgkellmhlmjeaaGreatDoorMgAH
import Derived.Test.YtpgkellmhlmjeaaGreatDoorMgAJ
import Derived.Deep.RegionLaw
namespace Go.Proofs.YtpgkellmhlmjeaaGreatDoor
open Go.RowKit Go.Sort Go.Maps Go.WideMaps
noncomputable def puX (d : Int) : List Int := if utC d = 0 then (match unR d with | some p => [d, p.1, p.2] ++ (rtI d :: asL d (pdN d - 1)) | none => []) else []
noncomputable def puK (d : Int) : Int := if utC d = 0 then 4 else 0
theorem puX_bad {d : Int} (h : ¬ utC d = 0) : puX d = [] ∧ puK d = 0 := by simp [puX, puK, h]
theorem puX_good {d x y : Int} (h : utC d = 0) (h2 : unR d = some (x, y)) : puX d = [d, x, y] ++ (rtI d :: asL d (pdN d - 1)) ∧ puK d = 4 := by simp [puX, puK, h, h2]
theorem puX_length (d : Int) : (puX d).length ≤ 402 := by
  by_cases h : utC d = 0
  · obtain ⟨h1, p, h2⟩ := utC_zero h
    obtain ⟨e1, e2, e3⟩ := pcC_zero h1
    obtain ⟨_, n2, _⟩ := pdN_spec e1 e2 e3
    have hl := asL_length d (pdN d - 1)
    rw [(puX_good (x := p.1) (y := p.2) h (by simpa using h2)).1]
    simp only [List.length_append, List.length_cons, List.length_nil]
    omega
  · rw [(puX_bad h).1]; simp
set_option maxHeartbeats 1000000 in
theorem sProveUnit_bad (d : Int) (w : World) (h : ¬ utC d = 0) : Calls Tryz.prog 116 #[.int .i64 d] w (RetCertC w (puK d) (puX d) (utC d)) := by
  obtain ⟨e1, e2⟩ := puX_bad h
  rw [e1, e2]
  have HU := Lib.hid (fun W : World => utS_any d W)
  have t0 : (utC d != 0) = true := by simpa using h
  clear e1 e2 h
  generalize utC d = cd at *
  go_enter Tryz.func116, Tryz.ntmps116
  go_wp2_with fail
  refine (HU.out _).mono ?_
  rintro e w1 ⟨P0, P1, N, rfl, _, hb1⟩
  have B2 : BoxV w.heap.size [.int .i64 0, .slice none 0 0] (w1.alloc (.cells #[.int .i64 P0, .int .i64 P1] 34)) := ((BoxV.new w #[.int .i64 0, .slice none 0 0] 26).next hb1).alloc _
  have HB := Lib.hid (ext_alloc (ext_trans (ext1 w (.cells #[.int .i64 0, .slice none 0 0] 26)) hb1) (.cells #[.int .i64 P0, .int .i64 P1] 34))
  have y0 := B2.at 0 _ rfl
  have y1 := B2.at 1 _ rfl
  have F0 := B2.f 0
  have F1 := B2.f 1
  obtain ⟨s0, s1⟩ := set_two y0 y1
  clear hb1
  go_wp2
  exact bodyPost_ret (v := .tuple #[certV 0 none 0 0, .int .i64 cd]) (by simp [results, Tryz.results116, go_sem, s0, s1]; done) rfl ⟨none, 0, rfl, fun h => absurd h (by simp), ⟨Nat.le_refl _, Nat.zero_le _⟩, ext_set (ext_set HB.out (by simp) _) (by simp) _⟩
set_option maxRecDepth 100000 in
set_option maxHeartbeats 4000000 in
theorem sProveUnit_good (d x y : Int) (w : World) (h0 : utC d = 0) (hu : unR d = some (x, y)) : Calls Tryz.prog 116 #[.int .i64 d] w (RetCertC w (puK d) (puX d) (utC d)) := by
  obtain ⟨tj, hj, hy0, hy1, hy2⟩ := info_parts info64
  have HJ := Lib.hid hj
  clear hj
  have HU := Lib.hid (fun W : World => utS_any d W)
  rw [h0] at HU ⊢
  obtain ⟨hX, hK⟩ := puX_good h0 hu
  obtain ⟨h1, h2, h3⟩ := pcC_zero (utC_zero h0).1
  have hd : NoSq d := ⟨h1, by omega, h3⟩
  obtain ⟨n1, n2, _, _, hpd⟩ := pdN_spec h1 h2 h3
  have HWK : Hid (∀ W, Calls Tryz.prog 87 #[surdV 0 d 1] W fun e w' => ∃ g A c, e = .returned (.tuple #[.pointer (some ⟨g, 0, none⟩), .bool true]) ∧ Below W.heap.size W w' ∧ (∃ v0, BoxV g [v0, .slice A (pdN d + 1) c, .int .i64 1] w') ∧ W.heap.size ≤ g ∧ Wr (Value.int .i64) w' W.heap.size A (rtI d :: asL d (pdN d)) ∧ (pdN d + 1 ≤ c ∧ c ≤ maxLen)) := fun W => by
    have h := l08Walk_cap 0 d 1 W (next_root hd).2.2
    rw [hpd] at h
    refine h.mono ?_
    rintro e w' ⟨g, he, hb, hk⟩
    obtain ⟨v1, A2, c2, q1, q2, q4, q5⟩ := hk _ _ rfl
    rw [cyL_terms hd] at q4
    have hlen : (cyL d (pdN d)).length = pdN d + 1 := by simp [cyL]
    rw [hlen] at q1 q5
    exact ⟨g, A2, c2, he, hb, ⟨_, q1⟩, q2, q4, q5⟩
  obtain ⟨m, hm⟩ : ∃ m, pdN d = m + 1 := ⟨pdN d - 1, by omega⟩
  rw [hu] at HU
  rw [hK]
  rw [hm] at hX HWK
  simp only [Nat.add_sub_cancel] at hX
  have hlm : (rtI d :: asL d m).length = m + 1 := by have := asL_length d m; simp; omega
  have hsub : Hid (∀ (j : Nat) (t : Int), (rtI d :: asL d m)[j]? = some t → (rtI d :: asL d (m + 1))[j]? = some t) := fun j t ht => by
    have hj : j < m + 1 := by have := (List.getElem?_eq_some_iff.1 ht).1; omega
    rcases j with _ | j
    · exact ht
    · simp only [List.getElem?_cons_succ] at ht ⊢
      rw [asL_get (by omega)] at ht
      rw [asL_get (by omega)]
      exact ht
  have hm2 : m ≤ 397 := by omega
  have hl1 : (rtI d :: asL d (m + 1)).length = m + 2 := by have := asL_length d (m + 1); simp; omega
  have HX := Lib.hid hX
  clear hX hK h0 hu h1 h2 h3 n1 n2 hm hd hpd
  generalize puX d = X at *
  generalize (rtI d :: asL d m) = M at *
  generalize (rtI d :: asL d (m + 1)) = C at *
  unfold surdV at HWK
  go_enter Tryz.func116, Tryz.ntmps116
  go_wp2_with fail
  refine (HU.out _).mono ?_
  rintro e w1 ⟨P0, P1, N, rfl, hP, hb1⟩
  obtain ⟨rfl, rfl⟩ : P0 = x ∧ P1 = y := by have h := hP rfl; injection h with h; injection h with h1 h2; exact ⟨h1.symm, h2.symm⟩
  have B1 : BoxV w1.heap.size [.int .i64 P0, .int .i64 P1] (w1.alloc (.cells #[.int .i64 P0, .int .i64 P1] 34)) := BoxV.new w1 #[.int .i64 P0, .int .i64 P1] 34
  have B2 : BoxV w.heap.size [.int .i64 0, .slice none 0 0] (w1.alloc (.cells #[.int .i64 P0, .int .i64 P1] 34)) := ((BoxV.new w #[.int .i64 0, .slice none 0 0] 26).next hb1).alloc _
  have HB := Lib.hid (ext_alloc (ext_trans (ext1 w (.cells #[.int .i64 0, .slice none 0 0] 26)) hb1) (.cells #[.int .i64 P0, .int .i64 P1] 34))
  have hw1 : w.heap.size < w1.heap.size := ((BoxV.new w #[.int .i64 0, .slice none 0 0] 26).next hb1).lt
  clear hb1 hP
  go_wp2_with fail
  generalize w1.alloc (.cells #[.int .i64 P0, .int .i64 P1] 34) = W1 at *
  generalize w1.heap.size = g1 at *
  have hgW : g1 < W1.heap.size := B1.lt
  refine (HWK.out _).mono ?_
  rintro e w2 ⟨g, A, c, rfl, hb2, ⟨v0, G1⟩, hgg, g3, ⟨cp1, cp2⟩⟩
  unfold maxLen at cp2
  obtain ⟨b, off, rfl, _, hbl, hc, _⟩ := g3 (by omega)
  have HC := Lib.hid hc
  have C1 := Lib.hid (B1.next hb2)
  have C2 := Lib.hid (B2.next hb2)
  have HB2 := Lib.hid (ext_trans HB.out hb2)
  have hg2 : g1 < w2.heap.size := (B1.next hb2).lt
  clear hc g3 B1 B2 HB hb2
  have x1 := G1.at 1 _ rfl
  have x2 := G1.at 2 _ rfl
  have k1 : IntKind.i64.wrap (((m + 1 + 1 : Nat) : Int) - 1) = (m : Int) + 1 := by rw [IntWalk.i64_in _ (by omega)]; omega
  have k2 : IntKind.i64.wrap ((m : Int) + 1 + 1 - 1) = (m : Int) + 1 := by rw [IntWalk.i64_in _ (by omega)]; omega
  have k5 : IntKind.i64.wrap ((m : Int) + 1) = (m : Int) + 1 := IntWalk.i64_in _ (by omega)
  go_wp2_with fail
  go_quiet (fail)
  have D1 := Lib.hid (C1.out.drewN (n := nq))
  have D2 := Lib.hid (C2.out.drewN (n := nq))
  have DG := Lib.hid (G1.drewN (n := nq))
  have HBV := Lib.hid (ext_drewN (n := nq) HB2.out)
  have HCV : Hid (∀ (j : Nat) (t : Int), M[j]? = some t → (w2.drewN nq).cell? ⟨b, off + j, none⟩ = some (.int .i64 t)) := fun j t ht => HC.out j t (hsub.out j t ht)
  have hblV : b < (w2.drewN nq).heap.size := hbl
  have hgV : g < (w2.drewN nq).heap.size := G1.lt
  have hg1V : g1 < (w2.drewN nq).heap.size := hg2
  clear HC hsub C1 C2 G1 HB2 hbl hg2 x1 x2 k1 k2 k5
  generalize w2.drewN nq = V at *
  have x0 := D1.out.at 0 _ rfl
  have x1 := D1.out.at 1 _ rfl
  have x2 := DG.out.at 1 _ rfl
  have HH := Lib.hid (fun (W : World) (hb : BoxV g1 [.int .i64 P0, .int .i64 P1] W) (hg : BoxV g [v0, .slice (some ⟨b, off, none⟩) (m + 1 + 1) c, .int .i64 1] W) => And.intro (hb.at 0 _ rfl) (And.intro (hb.at 1 _ rfl) (hg.at 1 _ rfl)))
  have HLX : X.length = 3 + (m + 1) := by rw [HX.out]; simp; omega
  have k3 : (0 : Int) ≤ (m : Int) + 1 := by omega
  have k4 : (m : Int) + 1 ≤ (c : Int) := by omega
  have k6 : m + 1 ≤ c := by omega
  have k7 : ¬ (m : Int) + 1 < 0 := by omega
  have k8 : ¬ (c : Int) < (m : Int) + 1 := by omega
  have hown : Hid (World.ownsRow (V.drew.alloc (.cells #[.int .i64 d, .int .i64 P0, .int .i64 P1] 2)) V.heap.size 2 1 (.slice (some ⟨V.heap.size, 0, none⟩) 3 3) 3 [.int .i64 d, .int .i64 P0, .int .i64 P1]) := by
    have h := World.ownsRow_lit (base := V.drew.heap.size) (e := 2) (size := 1) V.drew #[.int .i64 d, .int .i64 P0, .int .i64 P1] 3 (Nat.le_refl _) (by unfold maxLen; omega) rfl
    exact h
  have hnews : Hid (∀ (j : Nat) (u : Value), (M.map (Value.int .i64))[j]? = some u → (V.drew.alloc (.cells #[.int .i64 d, .int .i64 P0, .int .i64 P1] 2)).cell? ((⟨b, off, none⟩ : Addr).add j) = some u) := by
    intro j u hu
    rw [List.getElem?_map] at hu
    cases hx : M[j]? with
    | none => rw [hx] at hu; cases hu
    | some t =>
      rw [hx] at hu
      obtain rfl := Option.some.inj hu
      have ea : (⟨b, off, none⟩ : Addr).add j = ⟨b, off + j, none⟩ := by simp [Addr.add]
      rw [ea]
      exact ((ext_alloc (ext_drew (Below.refl V.heap.size V)) (.cells #[.int .i64 d, .int .i64 P0, .int .i64 P1] 2)).cell (p := ⟨b, off + j, none⟩) hblV).trans (HCV.out j t hx)
  have h1c : Hid (∀ u ∈ M.map (Value.int .i64), u.oneCell' = true) := by
    intro u hu; obtain ⟨t, _, rfl⟩ := List.mem_map.1 hu; rfl
  have hnl : (M.map (Value.int .i64)).length = (m + 1) * 1 := by simp; omega
  have D1' := D1.out
  have DG' := DG.out
  go_wp2_with fail
  go_region_held3 (fun w' => w'.cell? ⟨g1, 0, none⟩ = some (.int .i64 P0) ∧ w'.cell? ⟨g1, 1, none⟩ = some (.int .i64 P1) ∧ w'.cell? ⟨g, 1, none⟩ = some (.slice (some ⟨b, off, none⟩) (m + 1 + 1) c))
    (first | exact HH.out _ D1'.drew DG'.drew | exact HH.out _ (D1'.drew.alloc _) (DG'.drew.alloc _) | exact HH.out _ E1 EG | exact HH.out _ ((E1.setFar _ (by omega)).setFar _ (by omega)) ((EG.setFar _ (by omega)).setFar _ (by omega)))
    ((refine step_append_lies _ (by rfl) _ _ _ (by rfl) V.heap.size 2 tj (.int .i64 0) 1 8 Tryz.underlying24 HJ.out hy0 hy1 hy2 rfl (by decide) _ _ _ (by rfl) hown.out _ (m + 1) c (M.map (Value.int .i64)) (by rfl) hnl hnews.out h1c.out (by omega) (by unfold maxLen; omega) (by omega) (by simp <;> omega) _ rfl ?_; intro gg cap6 w6 hown6 hgrow hat hlt6; have E1 := (D1'.drew.alloc (.cells #[.int .i64 d, .int .i64 P0, .int .i64 P1] 2)).grown hgrow (fun e => by have h : V.heap.size = g1 := Option.some.inj e; omega); have EG := (DG'.drew.alloc (.cells #[.int .i64 d, .int .i64 P0, .int .i64 P1] 2)).grown hgrow (fun e => by have h : V.heap.size = g := Option.some.inj e; omega); have E2 := (D2.out.drew.alloc (.cells #[.int .i64 d, .int .i64 P0, .int .i64 P1] 2)).grown hgrow (fun e => by have h : V.heap.size = w.heap.size := Option.some.inj e; omega); have y0 := E2.at 0 _ rfl; have y1 := E2.at 1 _ rfl; have F0 := E2.f 0; have F1 := E2.f 1))
  obtain ⟨s0, s1⟩ := set_two y0 y1
  have hown7 : w6.ownsRow V.heap.size 2 1 (.slice (some ⟨gg, 0, none⟩) X.length cap6) X.length (X.map (Value.int .i64)) := by
    rw [HLX, HX.out]
    simpa using hown6
  obtain ⟨A4, c4, e4, hw4, hcp4⟩ := own_fullC hown7
  injection e4 with e5 _ e6
  subst e5
  subst e6
  have HB4 := Lib.hid (below_grown (ext_alloc (ext_drew (Below.refl V.heap.size V)) (.cells #[.int .i64 d, .int .i64 P0, .int .i64 P1] 2)) hown.out (Nat.le_refl _) hgrow)
  have HBB := Lib.hid (ext_trans HBV.out HB4.out)
  have HW4 := Lib.hid hw4
  have HCP4 := Lib.hid hcp4
  clear hcp4
  have hvw : w.heap.size < V.heap.size := D2.out.lt
  clear hown7 hown6 hgrow hw4
  go_wp2
  exact bodyPost_ret (v := .tuple #[certV 4 (some ⟨gg, 0, none⟩) X.length cap6, .int .i64 0]) (by simp [results, Tryz.results116, go_sem, s0, s1, HLX]; done) rfl ⟨some ⟨gg, 0, none⟩, cap6, rfl, ((HW4.out.setLow (by simp <;> omega) _).setLow (by simp <;> omega) _).more (by omega), HCP4.out, ext_set (ext_set HBB.out (by simp) _) (by simp) _⟩
theorem sProveUnit_any (d : Int) (w : World) : Calls Tryz.prog 116 #[.int .i64 d] w (RetCertC w (puK d) (puX d) (utC d)) := by
  by_cases h : utC d = 0
  · obtain ⟨p, hp⟩ := (utC_zero h).2
    exact sProveUnit_good d p.1 p.2 w h hp
  · exact sProveUnit_bad d w h
end Go.Proofs.YtpgkellmhlmjeaaGreatDoor
namespace Go.Proofs.YtpgkellmhlmjeaaGreatDoor
open Go.RowKit Go.Sort
set_option maxHeartbeats 1000000 in
theorem l18Plus_any (a b c e k : Int) (w : World) (h1 : -9000000000000000000 ≤ k * c ∧ k * c ≤ 9000000000000000000) (h2 : -9000000000000000000 ≤ k * e ∧ k * e ≤ 9000000000000000000) (h3 : -9000000000000000000 ≤ a + k * c ∧ a + k * c ≤ 9000000000000000000) (h4 : -9000000000000000000 ≤ b + k * e ∧ b + k * e ≤ 9000000000000000000) :
    Calls Tryz.prog 150 #[fracV a b, fracV c e, .int .i64 k] w fun x w' => x = .returned (fracV (a + k * c) (b + k * e)) ∧ Below w.heap.size w w' := by
  obtain ⟨x, hx⟩ : ∃ x, k * c = x := ⟨_, rfl⟩
  obtain ⟨y, hy⟩ : ∃ y, k * e = y := ⟨_, rfl⟩
  obtain ⟨u, hu⟩ : ∃ u, a + x = u := ⟨_, rfl⟩
  obtain ⟨v, hv⟩ : ∃ v, b + y = v := ⟨_, rfl⟩
  rw [hx] at h1 h3 ⊢
  rw [hy] at h2 h4 ⊢
  rw [hu] at h3 ⊢
  rw [hv] at h4 ⊢
  have w1 : IntKind.i64.wrap (k * c) = x := by rw [hx]; exact IntWalk.i64_in _ (by omega)
  have w2 : IntKind.i64.wrap (k * e) = y := by rw [hy]; exact IntWalk.i64_in _ (by omega)
  have w3 : IntKind.i64.wrap (a + x) = u := by rw [hu]; exact IntWalk.i64_in _ (by omega)
  have w4 : IntKind.i64.wrap (b + y) = v := by rw [hv]; exact IntWalk.i64_in _ (by omega)
  clear hx hy hu hv h1 h2 h3 h4
  unfold fracV
  go_enter Tryz.func150, Tryz.ntmps150
  have G1 := Lib.hid (((B2.new w a b 41).next (ext1 _ (.cells #[.int .i64 c, .int .i64 e] 41))).next (ext1 _ (.cells #[.int .i64 0, .int .i64 0] 41)))
  have G2 := Lib.hid ((B2.new_at (g := w.heap.size + 1) (W := w.alloc (.cells #[.int .i64 a, .int .i64 b] 41)) c e 41 (by simp)).next (ext1 _ (.cells #[.int .i64 0, .int .i64 0] 41)))
  obtain ⟨r0, r1, _, _⟩ := G1.out
  obtain ⟨x0, x1, _, _⟩ := G2.out
  go_wp2
  refine bodyPost_ret (v := fracV u v) ?_ rfl ⟨rfl, ext_alloc (ext_alloc (ext1 _ _) _) _⟩
  simp [results, Tryz.results150, go_sem, fracV]
set_option maxRecDepth 100000 in
set_option maxHeartbeats 1000000 in
theorem l18Second_eq (n d p : Int) (w : World) :
    Calls Tryz.prog 162 #[fracV n d, fracV p d] w fun e w' => e = .returned (.bool (frEq p d n d)) ∧ Below w.heap.size w w' := by
  have q1 := Tryz.eqGuardType41
  have q2 := Tryz.stoodInHeld41
  unfold fracV at *
  have t1 : (d == d) = true := by simp
  go_enter Tryz.func162, Tryz.ntmps162
  have hn : Hid True := trivial
  go_wp2
  all_goals
    go_ret
    refine ⟨ret_bool ?_, ext_alloc (ext1 _ _) _⟩
    rw [Bool.eq_iff_iff]
    unfold frEq
    simp
    try omega
/-- The rule of the second kind. -/
def isB2 (p q A B C E x y : Int) : Bool := (decide (x < y) && frEq p q A B) || (decide (y < x) && frEq p q C E)
set_option maxRecDepth 100000 in
set_option maxHeartbeats 4000000 in
theorem l18Second_far (n d p q A B C E : Int) (w : World) (F : Fr n d q) (S : Sides n d q A B C E) :
    Calls Tryz.prog 162 #[fracV n d, fracV p q] w fun e w' => e = .returned (.bool (isB2 p q A B C E (errV n d A B) (errV n d C E))) ∧ Below w.heap.size w w' := by
  have q1 := Tryz.eqGuardType41
  have q2 := Tryz.stoodInHeld41
  have HA := Lib.hid (l18Sides_far n d q A B C E · F S)
  obtain ⟨ba, bb, bc, be⟩ := S.1.bd F
  have HX := Lib.hid (l18Off_any n d A B · ⟨F.n1, F.n2⟩ ⟨by have := F.lt; have := F.most1; omega, F.d2⟩ ba bb)
  have HY := Lib.hid (l18Off_any n d C E · ⟨F.n1, F.n2⟩ ⟨by have := F.lt; have := F.most1; omega, F.d2⟩ bc be)
  have t1 : (q == d) = false := by have := F.lt; simp; omega
  have t2 : ¬ d < q := by have := F.lt; omega
  clear F S ba bb bc be
  generalize errV n d A B = x at *
  generalize errV n d C E = y at *
  unfold fracV at *
  go_enter Tryz.func162, Tryz.ntmps162
  have G1 := Lib.hid ((B2.new w n d 41).next (ext1 _ (.cells #[.int .i64 p, .int .i64 q] 41)))
  have G2 := Lib.hid (B2.new_at (g := w.heap.size + 1) (W := w.alloc (.cells #[.int .i64 n, .int .i64 d] 41)) p q 41 (by simp))
  have hbe := Lib.hid (ext_alloc (ext1 w (.cells #[.int .i64 n, .int .i64 d] 41)) (.cells #[.int .i64 p, .int .i64 q] 41))
  go_wp2_with fail
  generalize (w.alloc (.cells #[.int .i64 n, .int .i64 d] 41)).alloc (.cells #[.int .i64 p, .int .i64 q] 41) = W0 at *
  refine (HA.out _).mono ?_
  rintro e w1 ⟨rfl, hb⟩
  have hbe := Lib.hid (ext_alloc (ext_alloc (ext_trans hbe.out hb) (.cells #[.int .i64 A, .int .i64 B] 41)) (.cells #[.int .i64 C, .int .i64 E] 41))
  have G1 := Lib.hid (((G1.out.next hb).next (ext1 _ (.cells #[.int .i64 A, .int .i64 B] 41))).next (ext1 _ (.cells #[.int .i64 C, .int .i64 E] 41)))
  have G2 := Lib.hid (((G2.out.next hb).next (ext1 _ (.cells #[.int .i64 A, .int .i64 B] 41))).next (ext1 _ (.cells #[.int .i64 C, .int .i64 E] 41)))
  have G3 := Lib.hid ((B2.new w1 A B 41).next (ext1 _ (.cells #[.int .i64 C, .int .i64 E] 41)))
  have G4 := Lib.hid (B2.new_at (g := w1.heap.size + 1) (W := w1.alloc (.cells #[.int .i64 A, .int .i64 B] 41)) C E 41 (by simp))
  clear hb HA
  obtain ⟨r0, r1, _, _⟩ := G1.out
  obtain ⟨y0, y1, _, _⟩ := G3.out
  obtain ⟨z0, z1, _, _⟩ := G4.out
  go_wp2_with fail
  generalize (w1.alloc (.cells #[.int .i64 A, .int .i64 B] 41)).alloc (.cells #[.int .i64 C, .int .i64 E] 41) = W at *
  clear y0 y1 z0 z1 r0 r1
  refine (HX.out _).mono ?_
  rintro e w2 ⟨rfl, hb⟩
  have hbe := Lib.hid (ext_trans hbe.out hb)
  have G1 := Lib.hid (G1.out.next hb)
  have G2 := Lib.hid (G2.out.next hb)
  have G3 := Lib.hid (G3.out.next hb)
  have G4 := Lib.hid (G4.out.next hb)
  clear hb HX
  obtain ⟨r0, r1, _, _⟩ := G1.out
  obtain ⟨z0, z1, _, _⟩ := G4.out
  go_wp2_with fail
  clear z0 z1 r0 r1
  refine (HY.out _).mono ?_
  rintro e w3 ⟨rfl, hb⟩
  have hbe := Lib.hid (ext_trans hbe.out hb)
  obtain ⟨x0, x1, _, _⟩ := G2.out.next hb
  obtain ⟨y0, y1, _, _⟩ := G3.out.next hb
  obtain ⟨z0, z1, _, _⟩ := G4.out.next hb
  clear hb HY
  have hn : Hid True := trivial
  go_wp2
  all_goals
    go_ret
    refine ⟨ret_bool ?_, hbe.out⟩
    rw [Bool.eq_iff_iff]
    try unfold isB2
    unfold frEq
    simp
    try omega
end Go.Proofs.YtpgkellmhlmjeaaGreatDoor
namespace Go.Proofs.YtpgkellmhlmjeaaGreatDoor
open Go.RowKit Go.Sort
/-- The list's block bx and its row of fractions. -/
structure LB (w0 : World) (base bx : Nat) (n d : Int) (sec full : Bool) (out : List (Int × Int)) (v : Value) (W : World) : Prop where
  box : BoxV bx [.int .i64 n, .int .i64 d, .bool sec, v, .bool full] W
  row : OutF w0 base out v W
  b0 : w0.heap.size ≤ base
  b1 : w0.heap.size ≤ bx
  ne : v.ownBlock ≠ some bx
theorem LB.next {w0 : World} {base bx : Nat} {n d : Int} {sec full : Bool} {out : List (Int × Int)} {v : Value} {W W' : World} (h : LB w0 base bx n d sec full out v W) (hb : Below W.heap.size W W') : LB w0 base bx n d sec full out v W' :=
  ⟨h.box.next hb, h.row.next hb, h.b0, h.b1, h.ne⟩
/-- Nothing but the list's blocks is changed. -/
structure KL (bx : Nat) (v v' : Value) (w w' : World) : Prop where
  size : w.heap.size ≤ w'.heap.size
  block : ∀ g, g < w.heap.size → g ≠ bx → v.ownBlock ≠ some g → w'.heap[g]? = w.heap[g]? ∧ v'.ownBlock ≠ some g
theorem KL.of {bx : Nat} {v : Value} {w w' : World} (h : Below w.heap.size w w') : KL bx v v w w' :=
  ⟨h.size, fun g hg _ hn => ⟨h.block g hg, hn⟩⟩
theorem KL.trans {bx : Nat} {v v' v'' : Value} {a b c : World} (h : KL bx v v' a b) (k : KL bx v' v'' b c) : KL bx v v'' a c :=
  ⟨Nat.le_trans h.size k.size, fun g hg hx hn => by
    obtain ⟨e1, e2⟩ := h.block g hg hx hn
    obtain ⟨e3, e4⟩ := k.block g (Nat.lt_of_lt_of_le hg h.size) hx e2
    exact ⟨e3.trans e1, e4⟩⟩
theorem B2.kl {bx g : Nat} {x y : Int} {v v' : Value} {w w' : World} (h : B2 g x y w) (k : KL bx v v' w w') (hx : g ≠ bx) (hn : v.ownBlock ≠ some g) : B2 g x y w' := by
  obtain ⟨h0, h1, hf, hl⟩ := h
  obtain ⟨e, _⟩ := k.block g hl hx hn
  exact ⟨(World.cell?_of_block (a := ⟨g, 0, none⟩) e).trans h0, (World.cell?_of_block (a := ⟨g, 1, none⟩) e).trans h1, fun j => (World.frozen?_of_block (a := ⟨g, j, none⟩) e).trans (hf j), Nat.lt_of_lt_of_le hl k.size⟩
theorem own_setNe {w : World} {base : Nat} {e : TypeId} {size n : Nat} {v : Value} {xs : List Value} (h : w.ownsRow base e size v n xs) {g j : Nat} (u : Value) (hg : v.ownBlock ≠ some g) : (w.setCell ⟨g, j, none⟩ u).ownsRow base e size v n xs := by
  obtain ⟨h1, h2⟩ := h
  refine ⟨h1, ?_⟩
  rcases h2 with h2 | ⟨g', cap, cur, hv, hb, hh, r⟩
  · exact .inl h2
  · refine .inr ⟨g', cap, cur, hv, hb, (Below.heap_setCell w ⟨g, j, none⟩ u g' ?_).trans hh, r⟩
    intro e
    have e : g' = g := e
    subst e hv
    exact hg rfl
theorem OutF.setNe {w W : World} {base : Nat} {out : List (Int × Int)} {v : Value} (h : OutF w base out v W) {g j : Nat} (hb : w.heap.size ≤ g) (hn : v.ownBlock ≠ some g) (u : Value) : OutF w base out v (W.setCell ⟨g, j, none⟩ u) :=
  ⟨own_setNe h.1 u hn, ext_set h.2.1 hb u, by simpa using h.2.2⟩
theorem KL.set (bx j : Nat) (v : Value) (w : World) (u : Value) : KL bx v v w (w.setCell ⟨bx, j, none⟩ u) :=
  ⟨by simp, fun g _ hx hn => ⟨Below.heap_setCell w ⟨bx, j, none⟩ u g hx, hn⟩⟩
/-- .. behind an append. -/
theorem LB.push {w0 : World} {base bx : Nat} {n d : Int} {sec full : Bool} {out : List (Int × Int)} {v : Value} {W W1 w6 : World} {p q : Int} {g6 cap6 : Nat} (h : LB w0 base bx n d sec full out v W)
    (hb : Below W.heap.size W W1) (hown6 : w6.ownsRow base 41 2 (.slice (some ⟨g6, 0, none⟩) (out.length + 1) cap6) (out.length + 1) ((frL out).map (Value.int .i64) ++ [.int .i64 p, .int .i64 q])) (hg : W1.grownBy w6 v.ownBlock) (hat : v.ownBlock = some g6 ∨ W.heap.size ≤ g6) :
    LB w0 base bx n d sec full (out ++ [(p, q)]) (.slice (some ⟨g6, 0, none⟩) (out.length + 1) cap6) (w6.setCell ⟨bx, 3, none⟩ (.slice (some ⟨g6, 0, none⟩) (out.length + 1) cap6)) ∧ KL bx v (.slice (some ⟨g6, 0, none⟩) (out.length + 1) cap6) W (w6.setCell ⟨bx, 3, none⟩ (.slice (some ⟨g6, 0, none⟩) (out.length + 1) cap6)) := by
  have hlt := h.box.lt
  have hz := hb.size
  have hz6 := hg.size
  have hne : ∀ g, g < W.heap.size → v.ownBlock ≠ some g → g6 ≠ g := by
    rintro g hgl hn rfl
    rcases hat with e | e
    · exact hn e
    · omega
  have hn6 : (Value.slice (some ⟨g6, 0, none⟩) (out.length + 1) cap6).ownBlock ≠ some bx := fun e => hne bx hlt h.ne (Option.some.inj e)
  refine ⟨⟨((h.box.next hb).grown hg h.ne).set 3 _ (by simp), ?_, h.b0, h.b1, hn6⟩, ?_, ?_⟩
  · refine OutF.setNe ⟨by simpa [frL_snoc] using hown6, below_grown (ext_trans h.row.2.1 hb) (own_below h.row.1 hb) h.b0 hg, ?_⟩ h.b1 hn6 _
    have := h.row.2.2
    omega
  · simp
    omega
  · intro g hgl hx hn
    refine ⟨?_, fun e => hne g hgl hn (Option.some.inj e)⟩
    exact (Below.heap_setCell w6 ⟨bx, 3, none⟩ _ g hx).trans ((hg.block g (by omega) (fun e => hn e.symm)).trans (hb.block g hgl))
/-- What a look at a fraction does. -/
def SeeR (w0 : World) (base bx : Nat) (n d : Int) (sec : Bool) (out : List (Int × Int)) (v : Value) (p q : Int) (b : Bool) (w w' : World) : Prop :=
  ∃ (out' : List (Int × Int)) (full' : Bool) (v' : Value), LB w0 base bx n d sec full' out' v' w' ∧ KL bx v v' w w' ∧ (out' = out ∨ (out' = out ++ [(p, q)] ∧ b = true)) ∧ out'.length ≤ 200
set_option maxRecDepth 100000 in
set_option maxHeartbeats 4000000 in
theorem seeFirst_any (base bx : Nat) (n d : Int) (full : Bool) (out : List (Int × Int)) (v : Value) (p q : Int) (b : Bool) (w0 w : World) (hl : out.length ≤ 200) (h : LB w0 base bx n d false full out v w)
    (HF : Hid (∀ W, Calls Tryz.prog 45 #[fracV n d, fracV p q] W fun e w' => e = .returned (.bool b) ∧ Below W.heap.size W w')) :
    Calls Tryz.prog 149 #[.pointer (some ⟨bx, 0, none⟩), fracV p q] w fun e w' => e = .returned (.tuple #[]) ∧ SeeR w0 base bx n d false out v p q b w w' := by
  obtain ⟨ti, hi, hz0, hz1, hz2⟩ := info_parts infoFr
  have HI := Lib.hid hi
  clear hi
  have L1 := Lib.hid (h.next (ext1 w (.cells #[.int .i64 p, .int .i64 q] 41)))
  have K1 := Lib.hid (KL.of (bx := bx) (v := v) (ext1 w (.cells #[.int .i64 p, .int .i64 q] 41)))
  have GP := Lib.hid (B2.new w p q 41)
  obtain ⟨hvl, A, cp, hvs, _⟩ := Wr.of_ownS h.row.1
  clear h hvl
  unfold fracV at *
  go_enter Tryz.func149, Tryz.ntmps149
  go_wp2_with fail
  generalize w.alloc (.cells #[.int .i64 p, .int .i64 q] 41) = W at *
  have k0 : ∀ x os, (grow (redrawn W x) os).cell? ⟨w.heap.size, 0, none⟩ = some (.int .i64 p) := cell_regrown GP.out.1
  have k1 : ∀ x os, (grow (redrawn W x) os).cell? ⟨w.heap.size, 1, none⟩ = some (.int .i64 q) := cell_regrown GP.out.2.1
  have k2 : ∀ x os, (grow (redrawn W x) os).cell? ⟨bx, 0, none⟩ = some (.int .i64 n) := cell_regrown (L1.out.box.at 0 _ rfl)
  have k3 : ∀ x os, (grow (redrawn W x) os).cell? ⟨bx, 1, none⟩ = some (.int .i64 d) := cell_regrown (L1.out.box.at 1 _ rfl)
  have k4 : ∀ x os, (grow (redrawn W x) os).cell? ⟨bx, 2, none⟩ = some (.bool false) := cell_regrown (L1.out.box.at 2 _ rfl)
  cases b
  · refine wp_region_quiet_below (by kernel_rfl) (by kernel_rfl) ?_
    repeat (first | go_big_quiet_step ((with_reducible exact Calls.regrown_of (HF.out _))) | quiet_step ((with_reducible exact Calls.regrown_of (HF.out _))))
    refine wpQuiet_nil ?_
    intro _ hw'
    obtain ⟨⟨dq, oq⟩, hw''⟩ := hw'
    subst hw''
    obtain ⟨w4, hW4⟩ : ∃ Wq, Wq = grow (redrawn W dq) oq := ⟨_, rfl⟩
    have hb4 : Below W.heap.size W w4 := by rw [hW4]; exact below_regrown _ _ _
    rw [← hW4]
    clear hW4
    obtain ⟨hc4, hf4⟩ := bcell hb4
    have hy4 := hb4.size
    clear k0 k1 k2 k3 k4 hc4 hf4 hy4
    go_wp2
    refine bodyPost_ret (v := .tuple #[]) (by simp [results, Tryz.results149, go_sem]; done) rfl ?_
    exact ⟨rfl, out, full, v, L1.out.next hb4, K1.out.trans (KL.of hb4), .inl rfl, hl⟩
  · refine wp_region_quiet_below (by kernel_rfl) (by kernel_rfl) ?_
    repeat (first | go_big_quiet_step ((with_reducible exact Calls.regrown_of (HF.out _))) | quiet_step ((with_reducible exact Calls.regrown_of (HF.out _))))
    refine wpQuiet_nil ?_
    intro _ hw'
    obtain ⟨⟨dq, oq⟩, hw''⟩ := hw'
    subst hw''
    obtain ⟨w4, hW4⟩ : ∃ Wq, Wq = grow (redrawn W dq) oq := ⟨_, rfl⟩
    have hb4 : Below W.heap.size W w4 := by rw [hW4]; exact below_regrown _ _ _
    rw [← hW4]
    clear hW4
    obtain ⟨hc4, hf4⟩ := bcell hb4
    have hy4 := hb4.size
    clear k0 k1 k2 k3 k4 hc4 hf4 hy4
    have L1 := Lib.hid (L1.out.next hb4)
    have K1 := Lib.hid (K1.out.trans (KL.of hb4))
    have GP := Lib.hid (GP.out.next hb4)
    clear hb4
    have c3 := L1.out.box.at 3 _ rfl
    have c4 := L1.out.box.at 4 _ rfl
    have f4 := L1.out.box.f 4
    subst hvs
    by_cases h2 : 200 ≤ out.length
    · have t2 : (200 : Int) ≤ (out.length : Int) := by omega
      go_wp2
      refine bodyPost_ret (v := .tuple #[]) (by simp [results, Tryz.results149, go_sem]; done) rfl ?_
      refine ⟨rfl, out, true, _, ⟨L1.out.box.set 4 (.bool true) (by simp), ?_, L1.out.b0, L1.out.b1, L1.out.ne⟩, K1.out.trans ?_, .inl rfl, hl⟩
      · exact L1.out.row.setNe L1.out.b1 L1.out.ne _
      · exact KL.set _ _ _ _ _
    · have t2 : ¬ (200 : Int) ≤ (out.length : Int) := by omega
      have hown := Lib.hid (own_below L1.out.row.1 (ext_drew (Below.refl _ _)))
      have B1 := L1.out.box
      have hne := L1.out.ne
      have hbz := L1.out.row.2.2
      have hblt := B1.lt
      obtain ⟨x0, x1, xf, xl⟩ := GP.out
      clear xf
      go_wp2_with fail
      go_region_law (first
        | (refine step_append_lies _ (by rfl) _ _ _ (by rfl) base 41 ti (.agg #[.int .i64 0, .int .i64 0]) 2 16 Tryz.underlying74 HI.out hz0 hz1 hz2 rfl (by decide) _ _ _ (by rfl) (hown.out.alloc _) _ 1 1 [.int .i64 p, .int .i64 q] (by rfl) (by rfl) (news_row _ _ _ rfl) (by simp [Value.oneCell']) (by omega) (by unfold maxLen; omega) (by omega) (by simp; omega) _ rfl ?_; intro g6 cap6 w6 hown6 hgrow hat hlt; have B16 := (B1.drew.alloc _).grown hgrow hne; have z0 := B16.at 3 _ rfl; have G0 := B16.f 3))
      all_goals
        obtain ⟨Y1, Y2⟩ := L1.out.push (ext_alloc (ext_drew (Below.refl _ _)) _) hown6 hgrow (hat.imp_right fun e => by simp at e; omega)
        have HY1 := Lib.hid Y1
        have HY2 := Lib.hid Y2
        clear hown6 hgrow hat Y1 Y2
        go_wp2
        go_end0
        exact ⟨rfl, out ++ [(p, q)], full, _, HY1.out, K1.out.trans HY2.out, .inr ⟨rfl, rfl⟩, by simp; omega⟩
set_option maxRecDepth 100000 in
set_option maxHeartbeats 4000000 in
theorem seeSecond_any (base bx : Nat) (n d : Int) (full : Bool) (out : List (Int × Int)) (v : Value) (p q : Int) (b : Bool) (w0 w : World) (hl : out.length ≤ 200) (h : LB w0 base bx n d true full out v w)
    (HF : Hid (∀ W, Calls Tryz.prog 162 #[fracV n d, fracV p q] W fun e w' => e = .returned (.bool b) ∧ Below W.heap.size W w')) :
    Calls Tryz.prog 149 #[.pointer (some ⟨bx, 0, none⟩), fracV p q] w fun e w' => e = .returned (.tuple #[]) ∧ SeeR w0 base bx n d true out v p q b w w' := by
  obtain ⟨ti, hi, hz0, hz1, hz2⟩ := info_parts infoFr
  have HI := Lib.hid hi
  clear hi
  have L1 := Lib.hid (h.next (ext1 w (.cells #[.int .i64 p, .int .i64 q] 41)))
  have K1 := Lib.hid (KL.of (bx := bx) (v := v) (ext1 w (.cells #[.int .i64 p, .int .i64 q] 41)))
  have GP := Lib.hid (B2.new w p q 41)
  obtain ⟨hvl, A, cp, hvs, _⟩ := Wr.of_ownS h.row.1
  clear h hvl
  unfold fracV at *
  go_enter Tryz.func149, Tryz.ntmps149
  go_wp2_with fail
  generalize w.alloc (.cells #[.int .i64 p, .int .i64 q] 41) = W at *
  have k0 : ∀ x os, (grow (redrawn W x) os).cell? ⟨w.heap.size, 0, none⟩ = some (.int .i64 p) := cell_regrown GP.out.1
  have k1 : ∀ x os, (grow (redrawn W x) os).cell? ⟨w.heap.size, 1, none⟩ = some (.int .i64 q) := cell_regrown GP.out.2.1
  have k2 : ∀ x os, (grow (redrawn W x) os).cell? ⟨bx, 0, none⟩ = some (.int .i64 n) := cell_regrown (L1.out.box.at 0 _ rfl)
  have k3 : ∀ x os, (grow (redrawn W x) os).cell? ⟨bx, 1, none⟩ = some (.int .i64 d) := cell_regrown (L1.out.box.at 1 _ rfl)
  have k4 : ∀ x os, (grow (redrawn W x) os).cell? ⟨bx, 2, none⟩ = some (.bool true) := cell_regrown (L1.out.box.at 2 _ rfl)
  cases b
  · refine wp_region_quiet_below (by kernel_rfl) (by kernel_rfl) ?_
    repeat (first | go_big_quiet_step ((with_reducible exact Calls.regrown_of (HF.out _))) | quiet_step ((with_reducible exact Calls.regrown_of (HF.out _))))
    refine wpQuiet_nil ?_
    intro _ hw'
    obtain ⟨⟨dq, oq⟩, hw''⟩ := hw'
    subst hw''
    obtain ⟨w4, hW4⟩ : ∃ Wq, Wq = grow (redrawn W dq) oq := ⟨_, rfl⟩
    have hb4 : Below W.heap.size W w4 := by rw [hW4]; exact below_regrown _ _ _
    rw [← hW4]
    clear hW4
    obtain ⟨hc4, hf4⟩ := bcell hb4
    have hy4 := hb4.size
    clear k0 k1 k2 k3 k4 hc4 hf4 hy4
    go_wp2
    refine bodyPost_ret (v := .tuple #[]) (by simp [results, Tryz.results149, go_sem]; done) rfl ?_
    exact ⟨rfl, out, full, v, L1.out.next hb4, K1.out.trans (KL.of hb4), .inl rfl, hl⟩
  · refine wp_region_quiet_below (by kernel_rfl) (by kernel_rfl) ?_
    repeat (first | go_big_quiet_step ((with_reducible exact Calls.regrown_of (HF.out _))) | quiet_step ((with_reducible exact Calls.regrown_of (HF.out _))))
    refine wpQuiet_nil ?_
    intro _ hw'
    obtain ⟨⟨dq, oq⟩, hw''⟩ := hw'
    subst hw''
    obtain ⟨w4, hW4⟩ : ∃ Wq, Wq = grow (redrawn W dq) oq := ⟨_, rfl⟩
    have hb4 : Below W.heap.size W w4 := by rw [hW4]; exact below_regrown _ _ _
    rw [← hW4]
    clear hW4
    obtain ⟨hc4, hf4⟩ := bcell hb4
    have hy4 := hb4.size
    clear k0 k1 k2 k3 k4 hc4 hf4 hy4
    have L1 := Lib.hid (L1.out.next hb4)
    have K1 := Lib.hid (K1.out.trans (KL.of hb4))
    have GP := Lib.hid (GP.out.next hb4)
    clear hb4
    have c3 := L1.out.box.at 3 _ rfl
    have c4 := L1.out.box.at 4 _ rfl
    have f4 := L1.out.box.f 4
    subst hvs
    by_cases h2 : 200 ≤ out.length
    · have t2 : (200 : Int) ≤ (out.length : Int) := by omega
      go_wp2
      refine bodyPost_ret (v := .tuple #[]) (by simp [results, Tryz.results149, go_sem]; done) rfl ?_
      refine ⟨rfl, out, true, _, ⟨L1.out.box.set 4 (.bool true) (by simp), ?_, L1.out.b0, L1.out.b1, L1.out.ne⟩, K1.out.trans ?_, .inl rfl, hl⟩
      · exact L1.out.row.setNe L1.out.b1 L1.out.ne _
      · exact KL.set _ _ _ _ _
    · have t2 : ¬ (200 : Int) ≤ (out.length : Int) := by omega
      have hown := Lib.hid (own_below L1.out.row.1 (ext_drew (Below.refl _ _)))
      have B1 := L1.out.box
      have hne := L1.out.ne
      have hbz := L1.out.row.2.2
      have hblt := B1.lt
      obtain ⟨x0, x1, xf, xl⟩ := GP.out
      clear xf
      go_wp2_with fail
      go_region_law (first
        | (refine step_append_lies _ (by rfl) _ _ _ (by rfl) base 41 ti (.agg #[.int .i64 0, .int .i64 0]) 2 16 Tryz.underlying74 HI.out hz0 hz1 hz2 rfl (by decide) _ _ _ (by rfl) (hown.out.alloc _) _ 1 1 [.int .i64 p, .int .i64 q] (by rfl) (by rfl) (news_row _ _ _ rfl) (by simp [Value.oneCell']) (by omega) (by unfold maxLen; omega) (by omega) (by simp; omega) _ rfl ?_; intro g6 cap6 w6 hown6 hgrow hat hlt; have B16 := (B1.drew.alloc _).grown hgrow hne; have z0 := B16.at 3 _ rfl; have G0 := B16.f 3))
      all_goals
        obtain ⟨Y1, Y2⟩ := L1.out.push (ext_alloc (ext_drew (Below.refl _ _)) _) hown6 hgrow (hat.imp_right fun e => by simp at e; omega)
        have HY1 := Lib.hid Y1
        have HY2 := Lib.hid Y2
        clear hown6 hgrow hat Y1 Y2
        go_wp2
        go_end0
        exact ⟨rfl, out ++ [(p, q)], full, _, HY1.out, K1.out.trans HY2.out, .inr ⟨rfl, rfl⟩, by simp; omega⟩
end Go.Proofs.YtpgkellmhlmjeaaGreatDoor
namespace Go.Proofs.YtpgkellmhlmjeaaGreatDoor
open Go.RowKit Go.Sort
/-- p / q is a best approximation of n / d of the first kind. -/
def FB (n d p q : Int) : Prop := (p = n ∧ q = d) ∨ ∃ A B C E : Int, Fr n d q ∧ Sides n d q A B C E ∧ isB p q A B C E (cmp3 (errV n d A B * E) (errV n d C E * B)) = true
/-- A small fraction. -/
structure SmF (n d : Int) : Prop where
  n1 : -2000 ≤ n
  n2 : n ≤ 2000
  d1 : 1 ≤ d
  d2 : d ≤ 2000
  cop : Int.gcd n d = 1
theorem SmF.fr {n d q : Int} (h : SmF n d) (h1 : 1 ≤ q) (h2 : q < d) : Fr n d q := ⟨by have := h.n1; omega, by have := h.n2; omega, by have := h.d2; omega, h1, h2, h.cop⟩
theorem first_ex {n d : Int} (h : SmF n d) (p q : Int) (h1 : 1 ≤ q) : ∃ b : Bool, Hid (∀ W, Calls Tryz.prog 45 #[fracV n d, fracV p q] W fun e w' => e = .returned (.bool b) ∧ Below W.heap.size W w') ∧ (b = true → FB n d p q) := by
  by_cases hd : d ≤ q
  · refine ⟨_, Lib.hid (fun W => l18First_near n d p q W hd), fun e => .inl ?_⟩
    unfold frEq at e
    simpa using e
  · obtain ⟨A, B, C, E, S⟩ := sides_ex (h.fr h1 (by omega))
    exact ⟨_, Lib.hid (fun W => l18First_far n d p q A B C E W (h.fr h1 (by omega)) S), fun e => .inr ⟨A, B, C, E, h.fr h1 (by omega), S, e⟩⟩
theorem second_first {n d p q A B C E : Int} (S : Sides n d q A B C E) (h : isB2 p q A B C E (errV n d A B) (errV n d C E) = true) : isB p q A B C E (cmp3 (errV n d A B * E) (errV n d C E * B)) = true := by
  obtain ⟨e1, e2⟩ := S.1.err
  have x0 := S.1.lo
  have y0 := S.1.hi
  rw [← e1] at x0
  rw [← e2] at y0
  have b1 := S.1.b1
  have b2 := S.1.b2
  have c1 := S.1.e1
  have c2 := S.1.e2
  generalize errV n d A B = x at *
  generalize errV n d C E = y at *
  unfold isB2 frEq at h
  unfold isB frEq
  simp only [Bool.or_eq_true, Bool.and_eq_true, decide_eq_true_eq, beq_iff_eq] at h ⊢
  rcases h with ⟨h, rfl, rfl⟩ | ⟨h, rfl, rfl⟩
  · refine .inl ⟨⟨rfl, rfl⟩, ?_⟩
    have k1 := Int.mul_le_mul_of_nonneg_left c2 (show 0 ≤ x by omega)
    have k2 := Int.mul_lt_mul_of_pos_right h (show 0 < q by omega)
    rw [cmp3, if_pos (by omega)]
    decide
  · refine .inr ⟨⟨rfl, rfl⟩, ?_⟩
    have k1 := Int.mul_le_mul_of_nonneg_left b2 (show 0 ≤ y by omega)
    have k2 := Int.mul_lt_mul_of_pos_right h (show 0 < q by omega)
    rw [cmp3, if_neg (by omega), if_pos (by omega)]
    decide
theorem second_ex {n d : Int} (h : SmF n d) (p q : Int) (h1 : 1 ≤ q) (h2 : q ≤ d) : ∃ b : Bool, Hid (∀ W, Calls Tryz.prog 162 #[fracV n d, fracV p q] W fun e w' => e = .returned (.bool b) ∧ Below W.heap.size W w') ∧ (b = true → FB n d p q) := by
  by_cases hd : d ≤ q
  · obtain rfl : q = d := by omega
    refine ⟨_, Lib.hid (fun W => l18Second_eq n q p W), fun e => .inl ?_⟩
    unfold frEq at e
    simpa using e
  · obtain ⟨A, B, C, E, S⟩ := sides_ex (h.fr h1 (by omega))
    exact ⟨_, Lib.hid (fun W => l18Second_far n d p q A B C E W (h.fr h1 (by omega)) S), fun e => .inr ⟨A, B, C, E, h.fr h1 (by omega), S, second_first S e⟩⟩
/-- The list with what holds of it. -/
def LG (w0 : World) (base bx : Nat) (n d : Int) (sec full : Bool) (v : Value) (W : World) : Prop := ∃ out : List (Int × Int), LB w0 base bx n d sec full out v W ∧ out.length ≤ 200 ∧ ∀ z ∈ out, FB n d z.1 z.2
theorem LG.next {w0 : World} {base bx : Nat} {n d : Int} {sec full : Bool} {v : Value} {W W' : World} (h : LG w0 base bx n d sec full v W) (hb : Below W.heap.size W W') : LG w0 base bx n d sec full v W' := by
  obtain ⟨out, h1, h2⟩ := h
  exact ⟨out, h1.next hb, h2⟩
theorem see_any (base bx : Nat) (n d : Int) (sec full : Bool) (v : Value) (p q : Int) (w0 w : World) (hs : SmF n d) (h : LG w0 base bx n d sec full v w) (h1 : 1 ≤ q) (h2 : q ≤ d) :
    Calls Tryz.prog 149 #[.pointer (some ⟨bx, 0, none⟩), fracV p q] w fun e w' => e = .returned (.tuple #[]) ∧ ∃ full' v', LG w0 base bx n d sec full' v' w' ∧ KL bx v v' w w' := by
  obtain ⟨out, hb, hl, hg⟩ := h
  have key : ∀ (b : Bool) (e : Ending) (w' : World), (b = true → FB n d p q) → (e = .returned (.tuple #[]) ∧ SeeR w0 base bx n d sec out v p q b w w') → e = .returned (.tuple #[]) ∧ ∃ full' v', LG w0 base bx n d sec full' v' w' ∧ KL bx v v' w w' := by
    rintro b e w' hF ⟨he, out', full', v', k1, k2, k3, k4⟩
    refine ⟨he, full', v', ⟨out', k1, k4, fun z hz => ?_⟩, k2⟩
    rcases k3 with rfl | ⟨rfl, rfl⟩
    · exact hg z hz
    · rcases List.mem_append.1 hz with hz | hz
      · exact hg z hz
      · simp at hz
        subst hz
        exact hF rfl
  cases sec
  · obtain ⟨b, HF, hF⟩ := first_ex hs p q h1
    exact (seeFirst_any base bx n d full out v p q b w0 w hl hb HF).mono fun e w' hh => key b e w' hF hh
  · obtain ⟨b, HF, hF⟩ := second_ex hs p q h1 h2
    exact (seeSecond_any base bx n d full out v p q b w0 w hl hb HF).mono fun e w' hh => key b e w' hF hh
end Go.Proofs.YtpgkellmhlmjeaaGreatDoor
