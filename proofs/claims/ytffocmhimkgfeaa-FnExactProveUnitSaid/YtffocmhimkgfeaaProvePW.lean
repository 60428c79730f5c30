/- ProvePeriod: both walks. No condition but those that each theorem names. -/
import Derived.Test.YtffocmhimkgfeaaPdW
import Derived.Test.YtffocmhimkgfeaaConcatW
import Derived.Test.YtffocmhimkgfeaaCertW
namespace Go.Proofs.Ytffocmhimkgfeaa
open Go.RowKit Go.Sort Go.Maps Go.WideMaps

def ppX (s : Sd) : List Int := match pdR s with
  | some R => [s.1, s.2.1, s.2.2, ((headOf R).length : Int), ((cycOf R).length : Int)] ++ headOf R ++ cycOf R
  | none => []
def ppK (s : Sd) : Int := if (pdR s).isSome = true then 5 else 0
theorem ppX_none {s : Sd} (h : pdR s = none) : ppX s = [] := by simp [ppX, h]
theorem ppX_some {s : Sd} {R : List Sd × Nat} (h : pdR s = some R) : ppX s = [s.1, s.2.1, s.2.2, ((headOf R).length : Int), ((cycOf R).length : Int)] ++ headOf R ++ cycOf R := by simp [ppX, h]
theorem hc_len {L : List Sd} {i : Nat} (hi : i < L.length) : (headOf (L, i)).length = i ∧ (cycOf (L, i)).length = L.length - i := by
  have e1 : headOf (L, i) = (L.take i).map flS := rfl
  have e2 : cycOf (L, i) = (L.drop i).map flS := rfl
  rw [e1, e2, List.length_map, List.length_map, List.length_take, List.length_drop]
  omega
theorem ppX_length (s : Sd) : (ppX s).length ≤ 405 := by
  cases h : pdR s with
  | none => rw [ppX_none h]; simp
  | some R =>
    obtain ⟨L, i⟩ := R
    obtain ⟨_, _, _, h1, h2⟩ := pdR_facts h
    rw [ppX_some h]
    have := hc_len h1
    simp only [List.length_append, List.length_cons, List.length_nil]
    omega
theorem size_any (A : Option Addr) (n c : Nat) (w : World) : Calls Try.prog 135 #[.slice A n c] w fun e w' => e = .returned (.int .i64 (n : Int)) ∧ w = w' := by
  go_enter Try.func135, Try.ntmps135
  go_wp2
  go_ret
  exact ⟨rfl, rfl⟩
set_option maxRecDepth 100000 in
set_option maxHeartbeats 4000000 in
theorem iProvePeriod_any (p d q : Int) (w : World) : Calls Try.prog 57 #[surdV p d q] w (RetCertC w (ppK (p, d, q)) (ppX (p, d, q)) (pdC (p, d, q))) := by
  have HP := Lib.hid (fun W : World => iPeriodOf_any p d q W)
  cases hR : pdR (p, d, q) with
  | none =>
    have e1 : ppK (p, d, q) = 0 := by simp [ppK, hR]
    have e2 := ppX_none hR
    have e3 := pdR_none hR
    rw [e1, e2]
    rw [hR] at HP
    clear e1 e2 hR
    have t0 : (pdC (p, d, q) != 0) = true := by simpa using e3
    clear e3
    generalize pdC (p, d, q) = cd at *
    unfold surdV at *
    go_enter Try.func57, Try.ntmps57
    go_wp2_with fail
    refine (HP.out _).mono ?_
    rintro e w1 ⟨A1, c1, A2, c2, rfl, g1, g2, _, hb1⟩
    have B2 : BoxV (w.heap.size + 1) [.int .i64 0, .slice none 0 0] w1 := by
      have h := (BoxV.new (w.alloc (.cells #[.int .i64 p, .int .i64 d, .int .i64 q] 76)) #[.int .i64 0, .slice none 0 0] 73).next hb1
      simpa using h
    have HB := Lib.hid (ext_trans (ext_alloc (ext1 w (.cells #[.int .i64 p, .int .i64 d, .int .i64 q] 76)) (.cells #[.int .i64 0, .slice none 0 0] 73)) hb1)
    have y0 := B2.at 0 _ rfl
    have y1 := B2.at 1 _ rfl
    have F0 := B2.f 0
    have F1 := B2.f 1
    obtain ⟨s0, s1⟩ := set_two y0 y1
    clear g1 g2 hb1
    go_wp2
    exact bodyPost_ret (v := .tuple #[certV 0 none 0 0, .int .i64 cd]) (by simp [results, Try.results57, go_sem, s0, s1]; done) rfl ⟨none, 0, rfl, fun h => absurd h (by simp), ext_set (ext_set HB.out (by simp) _) (by simp) _⟩
  | some R =>
    obtain ⟨L, i⟩ := R
    obtain ⟨_, _, e3, h1, h2⟩ := pdR_facts hR
    have e1 : ppK (p, d, q) = 5 := by simp [ppK, hR]
    have hX := ppX_some hR
    have hll := hc_len h1
    rw [e1, e3]
    rw [hR, e3] at HP
    clear e1 e3 hR
    have HHD : Hid (hdR (some (L, i)) = headOf (L, i) ∧ cyR (some (L, i)) = cycOf (L, i)) := ⟨rfl, rfl⟩
    unfold RetPd at HP
    rw [HHD.out.1, HHD.out.2] at HP
    have hl1 : (headOf (L, i)).length ≤ 400 := by omega
    have hl2 : (cycOf (L, i)).length ≤ 400 := by omega
    clear hll h1 h2 HHD
    simp only at hX
    generalize headOf (L, i) = H at *
    generalize cycOf (L, i) = C at *
    generalize ppX (p, d, q) = X at *
    have HX := Lib.hid hX
    clear hX
    unfold surdV at *
    go_enter Try.func57, Try.ntmps57
    go_wp2_with fail
    refine (HP.out _).mono ?_
    rintro e w1 ⟨A1, c1, A2, c2, rfl, g1, g2, _, hb1⟩
    have B1 : BoxV w.heap.size [.int .i64 p, .int .i64 d, .int .i64 q] w1 := ((BoxV.new w #[.int .i64 p, .int .i64 d, .int .i64 q] 76).alloc _).next hb1
    have B2 : BoxV (w.heap.size + 1) [.int .i64 0, .slice none 0 0] w1 := by
      have h := (BoxV.new (w.alloc (.cells #[.int .i64 p, .int .i64 d, .int .i64 q] 76)) #[.int .i64 0, .slice none 0 0] 73).next hb1
      simpa using h
    have HB := Lib.hid (ext_trans (ext_alloc (ext1 w (.cells #[.int .i64 p, .int .i64 d, .int .i64 q] 76)) (.cells #[.int .i64 0, .slice none 0 0] 73)) hb1)
    have hs1 := B2.lt
    have G1 := Lib.hid g1
    have G2 := Lib.hid g2
    clear g1 g2 hb1
    have x0 := B1.at 0 _ rfl
    have x1 := B1.at 1 _ rfl
    have x2 := B1.at 2 _ rfl
    have HC := Lib.hid (fun (W : World) (hb : BoxV w.heap.size [.int .i64 p, .int .i64 d, .int .i64 q] W) => And.intro (hb.at 0 _ rfl) (And.intro (hb.at 1 _ rfl) (hb.at 2 _ rfl)))
    obtain ⟨PP, hPP⟩ : ∃ PP : List Part, PP = [(some ⟨w1.heap.size, 0, none⟩, 5, [p, d, q, (H.length : Int), (C.length : Int)]), (A1, c1, H), (A2, c2, C)] := ⟨_, rfl⟩
    have HPA : Hid (PartsAt ((w1.drew.alloc (.cells #[.int .i64 p, .int .i64 d, .int .i64 q, .int .i64 (H.length : Int), .int .i64 (C.length : Int)] 2)).alloc (.cells #[.slice (some ⟨w1.heap.size, 0, none⟩) 5 5, .slice A1 H.length c1, .slice A2 C.length c2] 42)) (w1.heap.size + 1) PP) := by
      subst hPP
      refine ⟨by simp, fun j t ht => ?_, fun t ht => ?_⟩
      · have hcell : ∀ j, ((w1.drew.alloc (.cells #[.int .i64 p, .int .i64 d, .int .i64 q, .int .i64 (H.length : Int), .int .i64 (C.length : Int)] 2)).alloc (.cells #[.slice (some ⟨w1.heap.size, 0, none⟩) 5 5, .slice A1 H.length c1, .slice A2 C.length c2] 42)).cell? ⟨w1.heap.size + 1, j, none⟩ = (#[.slice (some ⟨w1.heap.size, 0, none⟩) 5 5, .slice A1 H.length c1, .slice A2 C.length c2] : Array Value)[j]? := fun j => cell_two_snd w1.drew _ _ _ _ j
        rw [hcell]
        match j, ht with
        | 0, ht => simp at ht; subst ht; rfl
        | 1, ht => simp at ht; subst ht; rfl
        | 2, ht => simp at ht; subst ht; rfl
        | j + 3, ht => simp at ht
      · have hbb : Below w1.heap.size w1 ((w1.drew.alloc (.cells #[.int .i64 p, .int .i64 d, .int .i64 q, .int .i64 (H.length : Int), .int .i64 (C.length : Int)] 2)).alloc (.cells #[.slice (some ⟨w1.heap.size, 0, none⟩) 5 5, .slice A1 H.length c1, .slice A2 C.length c2] 42)) := ext_alloc (ext_alloc (ext_drew (Below.refl _ _)) _) _
        simp only [List.mem_cons, List.not_mem_nil, or_false] at ht
        rcases ht with rfl | rfl | rfl
        · intro _
          refine ⟨w1.heap.size, 0, rfl, by simp; omega, fun j x hx => ?_⟩
          have hc : ((w1.drew.alloc (.cells #[.int .i64 p, .int .i64 d, .int .i64 q, .int .i64 (H.length : Int), .int .i64 (C.length : Int)] 2)).alloc (.cells #[.slice (some ⟨w1.heap.size, 0, none⟩) 5 5, .slice A1 H.length c1, .slice A2 C.length c2] 42)).cell? ⟨w1.heap.size, j, none⟩ = (#[.int .i64 p, .int .i64 d, .int .i64 q, .int .i64 (H.length : Int), .int .i64 (C.length : Int)] : Array Value)[j]? := cell_two_fst w1.drew _ _ _ _ j
          rw [Nat.zero_add, hc]
          match j, hx with
          | 0, hx => simp at hx; subst hx; rfl
          | 1, hx => simp at hx; subst hx; rfl
          | 2, hx => simp at hx; subst hx; rfl
          | 3, hx => simp at hx; subst hx; rfl
          | 4, hx => simp at hx; subst hx; rfl
          | j + 5, hx => simp at hx
        · exact ((G1.out.below hbb).rd)
        · exact ((G2.out.below hbb).rd)
    have HCat : Hid (catL PP = X ∧ PP.length = 3) := by
      subst hPP
      refine ⟨?_, rfl⟩
      rw [HX.out]
      simp [catL]
    have HLX : X.length ≤ 1000 := by rw [HX.out]; simp; omega
    have HCC : Hid (Calls Try.prog 134 #[.slice (some ⟨w1.heap.size + 1, 0, none⟩) 3 3] ((w1.drew.alloc (.cells #[.int .i64 p, .int .i64 d, .int .i64 q, .int .i64 (H.length : Int), .int .i64 (C.length : Int)] 2)).alloc (.cells #[.slice (some ⟨w1.heap.size, 0, none⟩) 5 5, .slice A1 H.length c1, .slice A2 C.length c2] 42)) (RetList ((w1.drew.alloc (.cells #[.int .i64 p, .int .i64 d, .int .i64 q, .int .i64 (H.length : Int), .int .i64 (C.length : Int)] 2)).alloc (.cells #[.slice (some ⟨w1.heap.size, 0, none⟩) 5 5, .slice A1 H.length c1, .slice A2 C.length c2] 42)) X)) := by
      have h := concat_any (w1.heap.size + 1) 3 PP _ HPA.out (by rw [HCat.out.2]; omega) (by rw [HCat.out.1]; omega)
      rw [HCat.out.1, HCat.out.2] at h
      exact h
    clear HPA HCat hPP HX G1 G2
    go_wp2_with fail
    go_region_held3 (fun w' => w'.cell? ⟨w.heap.size, 0, none⟩ = some (.int .i64 p) ∧ w'.cell? ⟨w.heap.size, 1, none⟩ = some (.int .i64 d) ∧ w'.cell? ⟨w.heap.size, 2, none⟩ = some (.int .i64 q))
      (first | exact HC.out _ B1.drew | exact HC.out _ (B1.drew.alloc _) | exact HC.out _ ((B1.drew.alloc _).alloc _) | exact HC.out _ ((((B1.drew.alloc _).alloc _)).next hb4) | exact HC.out _ ((((((B1.drew.alloc _).alloc _)).next hb4).setFar _ (by omega)).setFar _ (by omega)))
      (first | (go_at_call 135; (with_reducible refine (size_any _ _ _ _).mono ?_); rintro e w' ⟨rfl, rfl⟩) | (go_at_call 134; refine HCC.out.mono ?_; rintro e w4 ⟨A4, c4, rfl, hw4, hb4⟩; have B5 := ((B2.drew.alloc _).alloc _).next hb4; have y0 := B5.at 0 _ rfl; have y1 := B5.at 1 _ rfl; have F0 := B5.f 0; have F1 := B5.f 1))
    all_goals
      obtain ⟨s0, s1⟩ := set_two y0 y1
      have HBB := Lib.hid (ext_trans (ext_alloc (ext_alloc (ext_drew HB.out) _) _) hb4)
      have HW4 := Lib.hid (hw4.more (show w.heap.size + 2 ≤ _ by simp; omega))
      go_wp2
      exact bodyPost_ret (v := .tuple #[certV 5 A4 X.length c4, .int .i64 0]) (by simp [results, Try.results57, go_sem, s0, s1]; done) rfl ⟨A4, c4, rfl, ((HW4.out.setLow (by simp) _).setLow (by simp) _).more (by omega), ext_set (ext_set HBB.out (by simp) _) (by simp) _⟩
theorem ppX_some' {s : Sd} {L : List Sd} {i : Nat} (h : pdR s = some (L, i)) : ppX s = [s.1, s.2.1, s.2.2, (i : Int), (L.length : Int) - (i : Int)] ++ L.map flS := by
  obtain ⟨_, _, _, h1, _⟩ := pdR_facts h
  obtain ⟨g1, g2⟩ := hc_len h1
  rw [ppX_some h, g1, g2, List.append_assoc]
  have e : headOf (L, i) ++ cycOf (L, i) = L.map flS := by
    show (L.take i).map flS ++ (L.drop i).map flS = L.map flS
    rw [← List.map_append, List.take_append_drop]
  rw [e, show ((L.length - i : Nat) : Int) = (L.length : Int) - (i : Int) by omega]
set_option maxRecDepth 100000 in
set_option maxHeartbeats 4000000 in
theorem sProvePeriod_any (p d q : Int) (w : World) : Calls Try.prog 55 #[surdV p d q] w (RetCertC w (ppK (p, d, q)) (ppX (p, d, q)) (pdC (p, d, q))) := by
  obtain ⟨tj, hj, hy0, hy1, hy2⟩ := info_parts info64
  have HJ := Lib.hid hj
  clear hj
  have HP := Lib.hid (fun W : World => l08Code_any p d q W)
  cases hR : pdR (p, d, q) with
  | none =>
    have e1 : ppK (p, d, q) = 0 := by simp [ppK, hR]
    have e2 := ppX_none hR
    have e3 := pdR_none hR
    rw [e1, e2]
    clear e1 e2 hR
    have t0 : (pdC (p, d, q) != 0) = true := by simpa using e3
    clear e3
    generalize pdC (p, d, q) = cd at *
    unfold surdV at *
    go_enter Try.func55, Try.ntmps55
    go_wp2_with fail
    refine (HP.out _).mono ?_
    rintro e w1 ⟨g, rfl, hb1, _⟩
    have B2 : BoxV (w.heap.size + 1) [.int .i64 0, .slice none 0 0] w1 := by
      have h := (BoxV.new (w.alloc (.cells #[.int .i64 p, .int .i64 d, .int .i64 q] 76)) #[.int .i64 0, .slice none 0 0] 73).next hb1
      simpa using h
    have HB := Lib.hid (ext_trans (ext_alloc (ext1 w (.cells #[.int .i64 p, .int .i64 d, .int .i64 q] 76)) (.cells #[.int .i64 0, .slice none 0 0] 73)) hb1)
    have y0 := B2.at 0 _ rfl
    have y1 := B2.at 1 _ rfl
    have F0 := B2.f 0
    have F1 := B2.f 1
    obtain ⟨s0, s1⟩ := set_two y0 y1
    clear hb1
    go_wp2
    exact bodyPost_ret (v := .tuple #[certV 0 none 0 0, .int .i64 cd]) (by simp [results, Try.results55, go_sem, s0, s1]; done) rfl ⟨none, 0, rfl, fun h => absurd h (by simp), ext_set (ext_set HB.out (by simp) _) (by simp) _⟩
  | some R =>
    obtain ⟨L, i⟩ := R
    obtain ⟨_, _, e3, h1, h2⟩ := pdR_facts hR
    have e1 : ppK (p, d, q) = 5 := by simp [ppK, hR]
    have hX := ppX_some' hR
    have hLl : (L.map flS).length = L.length := List.length_map _
    rw [e1, e3]
    rw [hR, e3] at HP
    clear e1 e3 hR
    simp only at hX
    generalize ppX (p, d, q) = X at *
    have HX := Lib.hid hX
    clear hX
    unfold surdV at *
    go_enter Try.func55, Try.ntmps55
    go_wp2_with fail
    refine (HP.out _).mono ?_
    rintro e w1 ⟨g, rfl, hb1, hw⟩
    obtain ⟨A1, c1, A2, c2, BW, hgB, g1, g2⟩ := hw L i rfl
    have B1 : BoxV w.heap.size [.int .i64 p, .int .i64 d, .int .i64 q] w1 := ((BoxV.new w #[.int .i64 p, .int .i64 d, .int .i64 q] 76).alloc _).next hb1
    have B2 : BoxV (w.heap.size + 1) [.int .i64 0, .slice none 0 0] w1 := by
      have h := (BoxV.new (w.alloc (.cells #[.int .i64 p, .int .i64 d, .int .i64 q] 76)) #[.int .i64 0, .slice none 0 0] 73).next hb1
      simpa using h
    have HB := Lib.hid (ext_trans (ext_alloc (ext1 w (.cells #[.int .i64 p, .int .i64 d, .int .i64 q] 76)) (.cells #[.int .i64 0, .slice none 0 0] 73)) hb1)
    have hs1 := B2.lt
    obtain ⟨b, off, rfl, hbb0, hbb1, hcc, _⟩ := g2 (by rw [hLl]; omega)
    have HCC := Lib.hid hcc
    clear g1 g2 hb1 hw hcc
    have x0 := B1.at 0 _ rfl
    have x1 := B1.at 1 _ rfl
    have x2 := B1.at 2 _ rfl
    have x3 := BW.at 1 _ rfl
    have x4 := BW.at 2 _ rfl
    have HC := Lib.hid (fun (W : World) (hb : BoxV w.heap.size [.int .i64 p, .int .i64 d, .int .i64 q] W) (hg : BoxV g [.slice A1 L.length c1, .slice (some ⟨b, off, none⟩) L.length c2, .int .i64 (i : Int)] W) => And.intro (hb.at 0 _ rfl) (And.intro (hb.at 1 _ rfl) (And.intro (hb.at 2 _ rfl) (And.intro (hg.at 1 _ rfl) (hg.at 2 _ rfl)))))
    have u1 : IntKind.i64.wrap ((L.length : Int) - (i : Int)) = (L.length : Int) - (i : Int) := IntWalk.i64_in _ (by omega)
    go_wp2_with fail
    go_region_held3 (fun w' => w'.cell? ⟨w.heap.size, 0, none⟩ = some (.int .i64 p) ∧ w'.cell? ⟨w.heap.size, 1, none⟩ = some (.int .i64 d) ∧ w'.cell? ⟨w.heap.size, 2, none⟩ = some (.int .i64 q) ∧ w'.cell? ⟨g, 1, none⟩ = some (.slice (some ⟨b, off, none⟩) L.length c2) ∧ w'.cell? ⟨g, 2, none⟩ = some (.int .i64 (i : Int)))
      (first | exact HC.out _ B1.drew BW.drew | exact HC.out _ (B1.drew.alloc _) (BW.drew.alloc _))
      (fail)
    have hown : Hid (World.ownsRow ((w1.alloc (.cells #[.int .i64 p, .int .i64 d, .int .i64 q, .int .i64 (i : Int), .int .i64 ((L.length : Int) - (i : Int))] 2)).drew) w1.heap.size 2 1 (.slice (some ⟨w1.heap.size, 0, none⟩) 5 5) 5 [.int .i64 p, .int .i64 d, .int .i64 q, .int .i64 (i : Int), .int .i64 ((L.length : Int) - (i : Int))]) := by
      have h := World.ownsRow_lit (base := w1.heap.size) (e := 2) (size := 1) w1 #[.int .i64 p, .int .i64 d, .int .i64 q, .int .i64 (i : Int), .int .i64 ((L.length : Int) - (i : Int))] 5 (Nat.le_refl _) (by unfold maxLen; omega) rfl
      exact h
    have z1 := ((BW.alloc (.cells #[.int .i64 p, .int .i64 d, .int .i64 q, .int .i64 (i : Int), .int .i64 ((L.length : Int) - (i : Int))] 2)).drew).at 1 _ rfl
    have HB3 : Hid (Below w1.heap.size w1 ((w1.alloc (.cells #[.int .i64 p, .int .i64 d, .int .i64 q, .int .i64 (i : Int), .int .i64 ((L.length : Int) - (i : Int))] 2)).drew)) := ext_drew (ext1 _ _)
    have hs3 : w1.heap.size ≤ ((w1.alloc (.cells #[.int .i64 p, .int .i64 d, .int .i64 q, .int .i64 (i : Int), .int .i64 ((L.length : Int) - (i : Int))] 2)).drew).heap.size := HB3.out.size
    have B23 := (B2.alloc (.cells #[.int .i64 p, .int .i64 d, .int .i64 q, .int .i64 (i : Int), .int .i64 ((L.length : Int) - (i : Int))] 2)).drew
    clear HC x0 x1 x2 x3 x4 B1 BW B2
    generalize ((w1.alloc (.cells #[.int .i64 p, .int .i64 d, .int .i64 q, .int .i64 (i : Int), .int .i64 ((L.length : Int) - (i : Int))] 2)).drew) = W3 at *
    generalize hLL : L.map flS = M at *
    have hown' := hown.out
    go_wp2_with (at_builtin; refine wpList_append_own _ rfl _ _ 42 rfl w1.heap.size 2 tj (.int .i64 0) 1 8 Try.underlying42 HJ.out hy0 hy1 hy2 rfl (by decide) _ _ _ rfl hown' ⟨b, off, none⟩ L.length c2 (M.map (Value.int .i64)) rfl (by simp; omega) ?c1 ?c2 ?c3 ?c4 ?c5 ?_)
    case c1 =>
      intro j u hu
      rw [List.getElem?_map] at hu
      cases hx : M[j]? with
      | none => rw [hx] at hu; cases hu
      | some x =>
        rw [hx] at hu
        obtain rfl := Option.some.inj hu
        have hcx := HCC.out j x hx
        have ea : (⟨b, off, none⟩ : Addr).add j = ⟨b, off + j, none⟩ := by simp [Addr.add]
        rw [ea]
        exact (HB3.out.cell (p := ⟨b, off + j, none⟩) hbb1).trans hcx
    case c2 => intro u hu; obtain ⟨x, _, rfl⟩ := List.mem_map.1 hu; rfl
    case c3 => unfold maxLen; omega
    case c4 => omega
    case c5 => exact hs3
    intro v' w4 hown3 hgrow _
    have hown4 : w4.ownsRow w1.heap.size 2 1 v' X.length (X.map (Value.int .i64)) := by
      rw [HX.out]
      have e : (([p, d, q, (i : Int), (L.length : Int) - (i : Int)] ++ M).length) = 5 + L.length := by simp; omega
      rw [e]
      simpa using hown3
    obtain ⟨_, A4, c4, rfl, hw4⟩ := Wr.of_own hown4
    have HW4 := Lib.hid hw4
    have HB4 := Lib.hid (below_grown HB3.out hown.out (Nat.le_refl _) hgrow)
    have B24 := B23.grown hgrow (fun e => by have h : w1.heap.size = w.heap.size + 1 := Option.some.inj e; omega)
    have HBB := Lib.hid (ext_trans HB.out HB4.out)
    clear hown hown' hown3 hown4 hgrow hw4 B23 z1
    have y0 := B24.at 0 _ rfl
    have y1 := B24.at 1 _ rfl
    have F0 := B24.f 0
    have F1 := B24.f 1
    obtain ⟨s0, s1⟩ := set_two y0 y1
    go_wp2
    exact bodyPost_ret (v := .tuple #[certV 5 A4 X.length c4, .int .i64 0]) (by simp [results, Try.results55, go_sem, s0, s1]; done) rfl ⟨A4, c4, rfl, (((HW4.out.more hs1).setLow (by simp) _).setLow (by simp) _).more (by omega), ext_set (ext_set HBB.out (by simp) _) (by simp) _⟩
end Go.Proofs.Ytffocmhimkgfeaa
