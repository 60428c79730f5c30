/- ProveUnit: both walks. No condition but those that each theorem names. -/
import Derived.Test.YtffocmhimkgfeaaUnitRW
import Derived.Test.YtffocmhimkgfeaaProvePW
import Derived.Test.YtffocmhimkgfeaaWalkC
namespace Go.Proofs.Ytffocmhimkgfeaa
open Go.RowKit Go.Sort Go.Maps Go.WideMaps

noncomputable def puX (d : Int) : List Int := if utC d = 0 then (match unR d with | some p => [d, p.1, p.2] ++ (rtI d :: asL d (pdN d - 1)) | none => []) else []
noncomputable def puK (d : Int) : Int := if utC d = 0 then 4 else 0
theorem puX_bad {d : Int} (h : ¬ utC d = 0) : puX d = [] ∧ puK d = 0 := by simp [puX, puK, h]
theorem puX_good {d x y : Int} (h : utC d = 0) (h2 : unR d = some (x, y)) : puX d = [d, x, y] ++ (rtI d :: asL d (pdN d - 1)) ∧ puK d = 4 := by simp [puX, puK, h, h2]
theorem puX_length (d : Int) : (puX d).length ≤ 402 := by
  by_cases h : utC d = 0
  · obtain ⟨h1, p, h2⟩ := utC_zero h
    obtain ⟨e1, e2, e3⟩ := pcC_zero h1
    obtain ⟨_, n2, _⟩ := pdN_spec e1 e2 e3
    have hl := asL_length d (pdN d - 1)
    rw [(puX_good (x := p.1) (y := p.2) h (by simpa using h2)).1]
    simp only [List.length_append, List.length_cons, List.length_nil]
    omega
  · rw [(puX_bad h).1]; simp
set_option maxHeartbeats 1000000 in
theorem iProveUnit_bad (d : Int) (w : World) (h : ¬ utC d = 0) : Calls Try.prog 62 #[.int .i64 d] w (RetCertC w (puK d) (puX d) (utC d)) := by
  obtain ⟨e1, e2⟩ := puX_bad h
  rw [e1, e2]
  have HU := Lib.hid (fun W : World => utI_any d W)
  have t0 : (utC d != 0) = true := by simpa using h
  clear e1 e2 h
  generalize utC d = cd at *
  go_enter Try.func62, Try.ntmps62
  go_wp2_with fail
  refine (HU.out _).mono ?_
  rintro e w1 ⟨P0, P1, N, rfl, _, hb1⟩
  have B2 : BoxV w.heap.size [.int .i64 0, .slice none 0 0] (w1.alloc (.cells #[.int .i64 P0, .int .i64 P1] 154)) := ((BoxV.new w #[.int .i64 0, .slice none 0 0] 73).next hb1).alloc _
  have HB := Lib.hid (ext_alloc (ext_trans (ext1 w (.cells #[.int .i64 0, .slice none 0 0] 73)) hb1) (.cells #[.int .i64 P0, .int .i64 P1] 154))
  have y0 := B2.at 0 _ rfl
  have y1 := B2.at 1 _ rfl
  have F0 := B2.f 0
  have F1 := B2.f 1
  obtain ⟨s0, s1⟩ := set_two y0 y1
  clear hb1
  go_wp2
  exact bodyPost_ret (v := .tuple #[certV 0 none 0 0, .int .i64 cd]) (by simp [results, Try.results62, go_sem, s0, s1]; done) rfl ⟨none, 0, rfl, fun h => absurd h (by simp), ext_set (ext_set HB.out (by simp) _) (by simp) _⟩
set_option maxHeartbeats 1000000 in
theorem sProveUnit_bad (d : Int) (w : World) (h : ¬ utC d = 0) : Calls Try.prog 61 #[.int .i64 d] w (RetCertC w (puK d) (puX d) (utC d)) := by
  obtain ⟨e1, e2⟩ := puX_bad h
  rw [e1, e2]
  have HU := Lib.hid (fun W : World => utS_any d W)
  have t0 : (utC d != 0) = true := by simpa using h
  clear e1 e2 h
  generalize utC d = cd at *
  go_enter Try.func61, Try.ntmps61
  go_wp2_with fail
  refine (HU.out _).mono ?_
  rintro e w1 ⟨P0, P1, N, rfl, _, hb1⟩
  have B2 : BoxV w.heap.size [.int .i64 0, .slice none 0 0] (w1.alloc (.cells #[.int .i64 P0, .int .i64 P1] 154)) := ((BoxV.new w #[.int .i64 0, .slice none 0 0] 73).next hb1).alloc _
  have HB := Lib.hid (ext_alloc (ext_trans (ext1 w (.cells #[.int .i64 0, .slice none 0 0] 73)) hb1) (.cells #[.int .i64 P0, .int .i64 P1] 154))
  have y0 := B2.at 0 _ rfl
  have y1 := B2.at 1 _ rfl
  have F0 := B2.f 0
  have F1 := B2.f 1
  obtain ⟨s0, s1⟩ := set_two y0 y1
  clear hb1
  go_wp2
  exact bodyPost_ret (v := .tuple #[certV 0 none 0 0, .int .i64 cd]) (by simp [results, Try.results61, go_sem, s0, s1]; done) rfl ⟨none, 0, rfl, fun h => absurd h (by simp), ext_set (ext_set HB.out (by simp) _) (by simp) _⟩
set_option maxRecDepth 100000 in
set_option maxHeartbeats 4000000 in
theorem iProveUnit_good (d x y : Int) (w : World) (h0 : utC d = 0) (hu : unR d = some (x, y)) : Calls Try.prog 62 #[.int .i64 d] w (RetCertC w (puK d) (puX d) (utC d)) := by
  have HU := Lib.hid (fun W : World => utI_any d W)
  rw [h0] at HU ⊢
  obtain ⟨hX, hK⟩ := puX_good h0 hu
  obtain ⟨h1, h2, h3⟩ := pcC_zero (utC_zero h0).1
  obtain ⟨n1, n2, _⟩ := pdN_spec h1 h2 h3
  have HR := Lib.hid (fun W : World => rootPeriod_any d W h1 h2 h3)
  obtain ⟨m, hm⟩ : ∃ m, pdN d = m + 1 := ⟨pdN d - 1, by omega⟩
  rw [hu] at HU
  rw [hK]
  rw [hm] at hX HR
  simp only [Nat.add_sub_cancel] at hX
  have hlm : (asL d m).length = m := asL_length d m
  have hsub : Hid (∀ (j : Nat) (t : Int), (asL d m)[j]? = some t → (asL d (m + 1))[j]? = some t) := fun j t ht => by
    have hj : j < m := by have := (List.getElem?_eq_some_iff.1 ht).1; omega
    rw [asL_get (by omega)] at ht
    rw [asL_get (by omega)]
    exact ht
  have hm2 : m ≤ 397 := by omega
  have hl1 : (asL d (m + 1)).length = m + 1 := asL_length d (m + 1)
  have HX := Lib.hid hX
  clear hX hK h0 hu h1 h2 h3 n1 n2 hm
  generalize puX d = X at *
  generalize asL d m = M at *
  generalize asL d (m + 1) = C at *
  generalize rtI d = r at *
  go_enter Try.func62, Try.ntmps62
  go_wp2_with fail
  refine (HU.out _).mono ?_
  rintro e w1 ⟨P0, P1, N, rfl, hP, hb1⟩
  obtain ⟨rfl, rfl⟩ : P0 = x ∧ P1 = y := by have h := hP rfl; injection h with h; injection h with h1 h2; exact ⟨h1.symm, h2.symm⟩
  have B1 : BoxV w1.heap.size [.int .i64 P0, .int .i64 P1] (w1.alloc (.cells #[.int .i64 P0, .int .i64 P1] 154)) := BoxV.new w1 #[.int .i64 P0, .int .i64 P1] 154
  have B2 : BoxV w.heap.size [.int .i64 0, .slice none 0 0] (w1.alloc (.cells #[.int .i64 P0, .int .i64 P1] 154)) := ((BoxV.new w #[.int .i64 0, .slice none 0 0] 73).next hb1).alloc _
  have HB := Lib.hid (ext_alloc (ext_trans (ext1 w (.cells #[.int .i64 0, .slice none 0 0] 73)) hb1) (.cells #[.int .i64 P0, .int .i64 P1] 154))
  have hw1 : w.heap.size < w1.heap.size := ((BoxV.new w #[.int .i64 0, .slice none 0 0] 73).next hb1).lt
  clear hb1 hP
  go_wp2_with fail
  generalize w1.alloc (.cells #[.int .i64 P0, .int .i64 P1] 154) = W1 at *
  generalize w1.heap.size = g1 at *
  refine (HR.out _).mono ?_
  rintro e w2 ⟨A, c, rfl, g2, ⟨cp1, cp2⟩, hb2⟩
  unfold maxLen at cp2
  obtain ⟨b, off, rfl, _, hbl, hc, _⟩ := g2 (by omega)
  have HC := Lib.hid hc
  have C1 := Lib.hid (B1.next hb2)
  have C2 := Lib.hid (B2.next hb2)
  have HB2 := Lib.hid (ext_trans HB.out hb2)
  have hg2 : g1 < w2.heap.size := (B1.next hb2).lt
  clear hc g2 B1 B2 HB hb2
  have x0 := C1.out.at 0 _ rfl
  have x1 := C1.out.at 1 _ rfl
  have k1 : IntKind.i64.wrap (((m + 1 : Nat) : Int) - 1) = (m : Int) := by rw [IntWalk.i64_in _ (by omega)]; omega
  have k2 : IntKind.i64.wrap ((m : Int) + 1 - 1) = (m : Int) := by rw [IntWalk.i64_in _ (by omega)]; omega
  have k3 : (0 : Int) ≤ (m : Int) := by omega
  have k5 : IntKind.i64.wrap (m : Int) = (m : Int) := IntWalk.i64_in _ (by omega)
  have k6 : m ≤ c := by omega
  have k7 : ¬ (m : Int) < 0 := by omega
  have k8 : ¬ (c : Int) < (m : Int) := by omega
  have k4 : (m : Int) ≤ (c : Int) := by omega
  have HCC : Hid (Calls Try.prog 134 #[.slice (some ⟨w2.heap.size + 1, 0, none⟩) 2 2] ((w2.drew.alloc (.cells #[.int .i64 d, .int .i64 P0, .int .i64 P1, .int .i64 r] 2)).alloc (.cells #[.slice (some ⟨w2.heap.size, 0, none⟩) 4 4, .slice (some ⟨b, off, none⟩) m c] 42)) (RetList ((w2.drew.alloc (.cells #[.int .i64 d, .int .i64 P0, .int .i64 P1, .int .i64 r] 2)).alloc (.cells #[.slice (some ⟨w2.heap.size, 0, none⟩) 4 4, .slice (some ⟨b, off, none⟩) m c] 42)) X)) := by
    have hPA : PartsAt ((w2.drew.alloc (.cells #[.int .i64 d, .int .i64 P0, .int .i64 P1, .int .i64 r] 2)).alloc (.cells #[.slice (some ⟨w2.heap.size, 0, none⟩) 4 4, .slice (some ⟨b, off, none⟩) m c] 42)) (w2.heap.size + 1) [(some ⟨w2.heap.size, 0, none⟩, 4, [d, P0, P1, r]), (some ⟨b, off, none⟩, c, M)] := by
      refine ⟨by simp, fun j t ht => ?_, fun t ht => ?_⟩
      · have hcell : ∀ j, ((w2.drew.alloc (.cells #[.int .i64 d, .int .i64 P0, .int .i64 P1, .int .i64 r] 2)).alloc (.cells #[.slice (some ⟨w2.heap.size, 0, none⟩) 4 4, .slice (some ⟨b, off, none⟩) m c] 42)).cell? ⟨w2.heap.size + 1, j, none⟩ = (#[.slice (some ⟨w2.heap.size, 0, none⟩) 4 4, .slice (some ⟨b, off, none⟩) m c] : Array Value)[j]? := fun j => cell_two_snd w2.drew _ _ _ _ j
        rw [hcell]
        match j, ht with
        | 0, ht => simp at ht; subst ht; rfl
        | 1, ht => simp at ht; subst ht; rw [hlm]; rfl
        | j + 2, ht => simp at ht
      · have hbb : Below w2.heap.size w2 ((w2.drew.alloc (.cells #[.int .i64 d, .int .i64 P0, .int .i64 P1, .int .i64 r] 2)).alloc (.cells #[.slice (some ⟨w2.heap.size, 0, none⟩) 4 4, .slice (some ⟨b, off, none⟩) m c] 42)) := ext_alloc (ext_alloc (ext_drew (Below.refl _ _)) _) _
        simp only [List.mem_cons, List.not_mem_nil, or_false] at ht
        rcases ht with rfl | rfl
        · intro _
          refine ⟨w2.heap.size, 0, rfl, by simp; omega, fun j x hx => ?_⟩
          have hc : ((w2.drew.alloc (.cells #[.int .i64 d, .int .i64 P0, .int .i64 P1, .int .i64 r] 2)).alloc (.cells #[.slice (some ⟨w2.heap.size, 0, none⟩) 4 4, .slice (some ⟨b, off, none⟩) m c] 42)).cell? ⟨w2.heap.size, j, none⟩ = (#[.int .i64 d, .int .i64 P0, .int .i64 P1, .int .i64 r] : Array Value)[j]? := cell_two_fst w2.drew _ _ _ _ j
          rw [Nat.zero_add, hc]
          match j, hx with
          | 0, hx => simp at hx; subst hx; rfl
          | 1, hx => simp at hx; subst hx; rfl
          | 2, hx => simp at hx; subst hx; rfl
          | 3, hx => simp at hx; subst hx; rfl
          | j + 4, hx => simp at hx
        · intro _
          exact ⟨b, off, rfl, by simp; omega, fun j x hx => (hbb.cell (p := ⟨b, off + j, none⟩) hbl).trans (HC.out j x (hsub.out j x hx))⟩
    have h := concat_any (w2.heap.size + 1) 2 _ _ hPA (by simp) (by simp [catL]; omega)
    have e : catL [((some ⟨w2.heap.size, 0, none⟩ : Option Addr), 4, [d, P0, P1, r]), (some ⟨b, off, none⟩, c, M)] = X := by rw [HX.out]; simp [catL]
    rw [e] at h
    exact h
  have HLX : X.length ≤ 402 := by rw [HX.out]; simp; omega
  have HH := Lib.hid (fun (W : World) (hb : BoxV g1 [.int .i64 P0, .int .i64 P1] W) => And.intro (hb.at 0 _ rfl) (hb.at 1 _ rfl))
  clear HC HX hsub
  go_wp2_with fail
  have hc1 := C1.out
  go_region_held3 (fun w' => w'.cell? ⟨g1, 0, none⟩ = some (.int .i64 P0) ∧ w'.cell? ⟨g1, 1, none⟩ = some (.int .i64 P1))
    (first | exact HH.out _ hc1.drew | exact HH.out _ (hc1.drew.alloc _) | exact HH.out _ ((hc1.drew.alloc _).alloc _) | exact HH.out _ ((((hc1.drew.alloc _).alloc _)).next hb4) | exact HH.out _ ((((((hc1.drew.alloc _).alloc _)).next hb4).setFar _ (by omega)).setFar _ (by omega)))
    (first | (go_at_call 134; refine HCC.out.mono ?_; rintro e w4 ⟨A4, c4, rfl, hw4, hb4⟩; have B5 := ((C2.out.drew.alloc _).alloc _).next hb4; have y0 := B5.at 0 _ rfl; have y1 := B5.at 1 _ rfl; have F0 := B5.f 0; have F1 := B5.f 1))
  all_goals
    obtain ⟨s0, s1⟩ := set_two y0 y1
    have HBB := Lib.hid (ext_trans (ext_alloc (ext_alloc (ext_drew HB2.out) _) _) hb4)
    have HW4 := Lib.hid (hw4.more (show w2.heap.size ≤ _ by simp; omega))
    go_wp2
    exact bodyPost_ret (v := .tuple #[certV 4 A4 X.length c4, .int .i64 0]) (by simp [results, Try.results62, go_sem, s0, s1]; done) rfl ⟨A4, c4, rfl, ((HW4.out.setLow (by simp <;> omega) _).setLow (by simp <;> omega) _).more (by omega), ext_set (ext_set HBB.out (by simp) _) (by simp) _⟩
set_option maxRecDepth 100000 in
set_option maxHeartbeats 4000000 in
theorem sProveUnit_good (d x y : Int) (w : World) (h0 : utC d = 0) (hu : unR d = some (x, y)) : Calls Try.prog 61 #[.int .i64 d] w (RetCertC w (puK d) (puX d) (utC d)) := by
  obtain ⟨tj, hj, hy0, hy1, hy2⟩ := info_parts info64
  have HJ := Lib.hid hj
  clear hj
  have HU := Lib.hid (fun W : World => utS_any d W)
  rw [h0] at HU ⊢
  obtain ⟨hX, hK⟩ := puX_good h0 hu
  obtain ⟨h1, h2, h3⟩ := pcC_zero (utC_zero h0).1
  have hd : NoSq d := ⟨h1, by omega, h3⟩
  obtain ⟨n1, n2, _, _, hpd⟩ := pdN_spec h1 h2 h3
  have HWK : Hid (∀ W, Calls Try.prog 137 #[surdV 0 d 1] W fun e w' => ∃ g A c, e = .returned (.tuple #[.pointer (some ⟨g, 0, none⟩), .bool true]) ∧ Below W.heap.size W w' ∧ (∃ v0, BoxV g [v0, .slice A (pdN d + 1) c, .int .i64 1] w') ∧ W.heap.size ≤ g ∧ Wr (Value.int .i64) w' W.heap.size A (rtI d :: asL d (pdN d)) ∧ (pdN d + 1 ≤ c ∧ c ≤ maxLen)) := fun W => by
    have h := l08Walk_cap 0 d 1 W (next_root hd).2.2
    rw [hpd] at h
    refine h.mono ?_
    rintro e w' ⟨g, he, hb, hk⟩
    obtain ⟨v1, A2, c2, q1, q2, q4, q5⟩ := hk _ _ rfl
    rw [cyL_terms hd] at q4
    have hlen : (cyL d (pdN d)).length = pdN d + 1 := by simp [cyL]
    rw [hlen] at q1 q5
    exact ⟨g, A2, c2, he, hb, ⟨_, q1⟩, q2, q4, q5⟩
  obtain ⟨m, hm⟩ : ∃ m, pdN d = m + 1 := ⟨pdN d - 1, by omega⟩
  rw [hu] at HU
  rw [hK]
  rw [hm] at hX HWK
  simp only [Nat.add_sub_cancel] at hX
  have hlm : (rtI d :: asL d m).length = m + 1 := by have := asL_length d m; simp; omega
  have hsub : Hid (∀ (j : Nat) (t : Int), (rtI d :: asL d m)[j]? = some t → (rtI d :: asL d (m + 1))[j]? = some t) := fun j t ht => by
    have hj : j < m + 1 := by have := (List.getElem?_eq_some_iff.1 ht).1; omega
    rcases j with _ | j
    · exact ht
    · simp only [List.getElem?_cons_succ] at ht ⊢
      rw [asL_get (by omega)] at ht
      rw [asL_get (by omega)]
      exact ht
  have hm2 : m ≤ 397 := by omega
  have hl1 : (rtI d :: asL d (m + 1)).length = m + 2 := by have := asL_length d (m + 1); simp; omega
  have HX := Lib.hid hX
  clear hX hK h0 hu h1 h2 h3 n1 n2 hm hd hpd
  generalize puX d = X at *
  generalize (rtI d :: asL d m) = M at *
  generalize (rtI d :: asL d (m + 1)) = C at *
  unfold surdV at HWK
  go_enter Try.func61, Try.ntmps61
  go_wp2_with fail
  refine (HU.out _).mono ?_
  rintro e w1 ⟨P0, P1, N, rfl, hP, hb1⟩
  obtain ⟨rfl, rfl⟩ : P0 = x ∧ P1 = y := by have h := hP rfl; injection h with h; injection h with h1 h2; exact ⟨h1.symm, h2.symm⟩
  have B1 : BoxV w1.heap.size [.int .i64 P0, .int .i64 P1] (w1.alloc (.cells #[.int .i64 P0, .int .i64 P1] 154)) := BoxV.new w1 #[.int .i64 P0, .int .i64 P1] 154
  have B2 : BoxV w.heap.size [.int .i64 0, .slice none 0 0] (w1.alloc (.cells #[.int .i64 P0, .int .i64 P1] 154)) := ((BoxV.new w #[.int .i64 0, .slice none 0 0] 73).next hb1).alloc _
  have HB := Lib.hid (ext_alloc (ext_trans (ext1 w (.cells #[.int .i64 0, .slice none 0 0] 73)) hb1) (.cells #[.int .i64 P0, .int .i64 P1] 154))
  have hw1 : w.heap.size < w1.heap.size := ((BoxV.new w #[.int .i64 0, .slice none 0 0] 73).next hb1).lt
  clear hb1 hP
  go_wp2_with fail
  generalize w1.alloc (.cells #[.int .i64 P0, .int .i64 P1] 154) = W1 at *
  generalize w1.heap.size = g1 at *
  have hgW : g1 < W1.heap.size := B1.lt
  refine (HWK.out _).mono ?_
  rintro e w2 ⟨g, A, c, rfl, hb2, ⟨v0, G1⟩, hgg, g3, ⟨cp1, cp2⟩⟩
  unfold maxLen at cp2
  obtain ⟨b, off, rfl, _, hbl, hc, _⟩ := g3 (by omega)
  have HC := Lib.hid hc
  have C1 := Lib.hid (B1.next hb2)
  have C2 := Lib.hid (B2.next hb2)
  have HB2 := Lib.hid (ext_trans HB.out hb2)
  have hg2 : g1 < w2.heap.size := (B1.next hb2).lt
  clear hc g3 B1 B2 HB hb2
  have x1 := G1.at 1 _ rfl
  have x2 := G1.at 2 _ rfl
  have k1 : IntKind.i64.wrap (((m + 1 + 1 : Nat) : Int) - 1) = (m : Int) + 1 := by rw [IntWalk.i64_in _ (by omega)]; omega
  have k2 : IntKind.i64.wrap ((m : Int) + 1 + 1 - 1) = (m : Int) + 1 := by rw [IntWalk.i64_in _ (by omega)]; omega
  have k5 : IntKind.i64.wrap ((m : Int) + 1) = (m : Int) + 1 := IntWalk.i64_in _ (by omega)
  go_wp2_with fail
  go_quiet (fail)
  have D1 := Lib.hid (C1.out.drewN (n := nq))
  have D2 := Lib.hid (C2.out.drewN (n := nq))
  have DG := Lib.hid (G1.drewN (n := nq))
  have HBV := Lib.hid (ext_drewN (n := nq) HB2.out)
  have HCV : Hid (∀ (j : Nat) (t : Int), M[j]? = some t → (w2.drewN nq).cell? ⟨b, off + j, none⟩ = some (.int .i64 t)) := fun j t ht => HC.out j t (hsub.out j t ht)
  have hblV : b < (w2.drewN nq).heap.size := hbl
  have hgV : g < (w2.drewN nq).heap.size := G1.lt
  have hg1V : g1 < (w2.drewN nq).heap.size := hg2
  clear HC hsub C1 C2 G1 HB2 hbl hg2 x1 x2 k1 k2 k5
  generalize w2.drewN nq = V at *
  have x0 := D1.out.at 0 _ rfl
  have x1 := D1.out.at 1 _ rfl
  have x2 := DG.out.at 1 _ rfl
  have HH := Lib.hid (fun (W : World) (hb : BoxV g1 [.int .i64 P0, .int .i64 P1] W) (hg : BoxV g [v0, .slice (some ⟨b, off, none⟩) (m + 1 + 1) c, .int .i64 1] W) => And.intro (hb.at 0 _ rfl) (And.intro (hb.at 1 _ rfl) (hg.at 1 _ rfl)))
  have HLX : X.length = 3 + (m + 1) := by rw [HX.out]; simp; omega
  have k3 : (0 : Int) ≤ (m : Int) + 1 := by omega
  have k4 : (m : Int) + 1 ≤ (c : Int) := by omega
  have k6 : m + 1 ≤ c := by omega
  have k7 : ¬ (m : Int) + 1 < 0 := by omega
  have k8 : ¬ (c : Int) < (m : Int) + 1 := by omega
  have hown : Hid (World.ownsRow (V.drew.alloc (.cells #[.int .i64 d, .int .i64 P0, .int .i64 P1] 2)) V.heap.size 2 1 (.slice (some ⟨V.heap.size, 0, none⟩) 3 3) 3 [.int .i64 d, .int .i64 P0, .int .i64 P1]) := by
    have h := World.ownsRow_lit (base := V.drew.heap.size) (e := 2) (size := 1) V.drew #[.int .i64 d, .int .i64 P0, .int .i64 P1] 3 (Nat.le_refl _) (by unfold maxLen; omega) rfl
    exact h
  have hnews : Hid (∀ (j : Nat) (u : Value), (M.map (Value.int .i64))[j]? = some u → (V.drew.alloc (.cells #[.int .i64 d, .int .i64 P0, .int .i64 P1] 2)).cell? ((⟨b, off, none⟩ : Addr).add j) = some u) := by
    intro j u hu
    rw [List.getElem?_map] at hu
    cases hx : M[j]? with
    | none => rw [hx] at hu; cases hu
    | some t =>
      rw [hx] at hu
      obtain rfl := Option.some.inj hu
      have ea : (⟨b, off, none⟩ : Addr).add j = ⟨b, off + j, none⟩ := by simp [Addr.add]
      rw [ea]
      exact ((ext_alloc (ext_drew (Below.refl V.heap.size V)) (.cells #[.int .i64 d, .int .i64 P0, .int .i64 P1] 2)).cell (p := ⟨b, off + j, none⟩) hblV).trans (HCV.out j t hx)
  have h1c : Hid (∀ u ∈ M.map (Value.int .i64), u.oneCell' = true) := by
    intro u hu; obtain ⟨t, _, rfl⟩ := List.mem_map.1 hu; rfl
  have hnl : (M.map (Value.int .i64)).length = (m + 1) * 1 := by simp; omega
  have D1' := D1.out
  have DG' := DG.out
  go_wp2_with fail
  go_region_held3 (fun w' => w'.cell? ⟨g1, 0, none⟩ = some (.int .i64 P0) ∧ w'.cell? ⟨g1, 1, none⟩ = some (.int .i64 P1) ∧ w'.cell? ⟨g, 1, none⟩ = some (.slice (some ⟨b, off, none⟩) (m + 1 + 1) c))
    (first | exact HH.out _ D1'.drew DG'.drew | exact HH.out _ (D1'.drew.alloc _) (DG'.drew.alloc _) | exact HH.out _ E1 EG | exact HH.out _ ((E1.setFar _ (by omega)).setFar _ (by omega)) ((EG.setFar _ (by omega)).setFar _ (by omega)))
    ((refine step_append_lies _ (by rfl) _ _ _ (by rfl) V.heap.size 2 tj (.int .i64 0) 1 8 Try.underlying42 HJ.out hy0 hy1 hy2 rfl (by decide) _ _ _ (by rfl) hown.out _ (m + 1) c (M.map (Value.int .i64)) (by rfl) hnl hnews.out h1c.out (by omega) (by unfold maxLen; omega) (by omega) (by simp <;> omega) _ rfl ?_; intro gg cap6 w6 hown6 hgrow hat hlt6; have E1 := (D1'.drew.alloc (.cells #[.int .i64 d, .int .i64 P0, .int .i64 P1] 2)).grown hgrow (fun e => by have h : V.heap.size = g1 := Option.some.inj e; omega); have EG := (DG'.drew.alloc (.cells #[.int .i64 d, .int .i64 P0, .int .i64 P1] 2)).grown hgrow (fun e => by have h : V.heap.size = g := Option.some.inj e; omega); have E2 := (D2.out.drew.alloc (.cells #[.int .i64 d, .int .i64 P0, .int .i64 P1] 2)).grown hgrow (fun e => by have h : V.heap.size = w.heap.size := Option.some.inj e; omega); have y0 := E2.at 0 _ rfl; have y1 := E2.at 1 _ rfl; have F0 := E2.f 0; have F1 := E2.f 1))
  obtain ⟨s0, s1⟩ := set_two y0 y1
  have hown7 : w6.ownsRow V.heap.size 2 1 (.slice (some ⟨gg, 0, none⟩) X.length cap6) X.length (X.map (Value.int .i64)) := by
    rw [HLX, HX.out]
    simpa using hown6
  obtain ⟨_, A4, c4, e4, hw4⟩ := Wr.of_own hown7
  injection e4 with e5 _ e6
  subst e5
  subst e6
  have HB4 := Lib.hid (below_grown (ext_alloc (ext_drew (Below.refl V.heap.size V)) (.cells #[.int .i64 d, .int .i64 P0, .int .i64 P1] 2)) hown.out (Nat.le_refl _) hgrow)
  have HBB := Lib.hid (ext_trans HBV.out HB4.out)
  have HW4 := Lib.hid hw4
  have hvw : w.heap.size < V.heap.size := D2.out.lt
  clear hown7 hown6 hgrow hw4
  go_wp2
  exact bodyPost_ret (v := .tuple #[certV 4 (some ⟨gg, 0, none⟩) X.length cap6, .int .i64 0]) (by simp [results, Try.results61, go_sem, s0, s1, HLX]; done) rfl ⟨some ⟨gg, 0, none⟩, cap6, rfl, ((HW4.out.setLow (by simp <;> omega) _).setLow (by simp <;> omega) _).more (by omega), ext_set (ext_set HBB.out (by simp) _) (by simp) _⟩
theorem iProveUnit_any (d : Int) (w : World) : Calls Try.prog 62 #[.int .i64 d] w (RetCertC w (puK d) (puX d) (utC d)) := by
  by_cases h : utC d = 0
  · obtain ⟨p, hp⟩ := (utC_zero h).2
    exact iProveUnit_good d p.1 p.2 w h hp
  · exact iProveUnit_bad d w h
theorem sProveUnit_any (d : Int) (w : World) : Calls Try.prog 61 #[.int .i64 d] w (RetCertC w (puK d) (puX d) (utC d)) := by
  by_cases h : utC d = 0
  · obtain ⟨p, hp⟩ := (utC_zero h).2
    exact sProveUnit_good d p.1 p.2 w h hp
  · exact sProveUnit_bad d w h
end Go.Proofs.Ytffocmhimkgfeaa
