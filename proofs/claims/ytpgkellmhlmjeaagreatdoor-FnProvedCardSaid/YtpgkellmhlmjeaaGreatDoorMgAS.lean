/- Parts of the proof, merged: PrvQ NearW PrvL DrawFW DrawRvW. No condition but those that each theorem names. -/
import Derived.Test.YtpgkellmhlmjeaaGreatDoorMgAN
import Derived.Test.YtpgkellmhlmjeaaGreatDoorMgAP
import Derived.Test.YtpgkellmhlmjeaaGreatDoorMgAQ
import Derived.Test.YtpgkellmhlmjeaaGreatDoorMgAM
import Derived.Test.YtpgkellmhlmjeaaGreatDoorMgAR
import Derived.Test.YtpgkellmhlmjeaaGreatDoorMgAB
import Derived.Test.YtpgkellmhlmjeaaGreatDoorMgAG
import Derived.Deep.RegionHeld3
import Derived.IntWalk
import Derived.Test.YtpgkellmhlmjeaaGreatDoorMgAC
import Derived.Test.YtpgkellmhlmjeaaGreatDoorMgAJ
import Derived.Deep.AppendLies
namespace Go.Proofs.YtpgkellmhlmjeaaGreatDoor
open Go.RowKit Go.Sort
theorem alg_it {d : Int} (hd : NoSq d) : ∀ (m : Nat) (s : Sd), Red d s → alg ((List.range m).map fun k => flS (itS s k)) s = some ((List.range m).map fun k => itS s (k + 1))
  | 0, s, _ => rfl
  | m + 1, s, h => by
    have ok : sdOk (nxS s) = true := red_ok hd (red_next hd h).1
    have ih := alg_it hd m (nxS s) (red_next hd h).1
    have e1 : ((List.range m).map ((fun k => flS (itS s k)) ∘ Nat.succ)) = (List.range m).map fun k => flS (itS (nxS s) k) := by
      apply List.map_congr_left
      intro k _
      show flS (itS s (k + 1)) = _
      rw [itS_succ']
    have e2 : ((List.range m).map ((fun k => itS s (k + 1)) ∘ Nat.succ)) = (List.range m).map fun k => itS (nxS s) (k + 1) := by
      apply List.map_congr_left
      intro k _
      show itS s (k + 1 + 1) = _
      rw [itS_succ']
    rw [List.range_succ_eq_map, List.map_cons, List.map_map, List.map_cons, List.map_map, e1, e2]
    have e0 : itS s 0 = s := rfl
    have e3 : itS s (0 + 1) = nxS s := rfl
    rw [e0, e3, alg, ok, decide_eq_true rfl]
    simp [ih]
theorem allK_all {p : Nat → Bool} : ∀ n, (∀ k, k < n → p k = true) → allK p n = true
  | 0, _ => rfl
  | n + 1, h => allK_succ (allK_all n fun k hk => h k (by omega)) (h n (by omega))
/-- A unit that is proved. -/
theorem un_acc {d : Int} (h : utC d = 0) : puK d = 4 ∧ unB (puX d) = true ∧ nbB (puX d) = true := by
  obtain ⟨hpc, ⟨x, y⟩, hu⟩ := utC_zero h
  obtain ⟨h1, h2, h3⟩ := pcC_zero hpc
  have hd : NoSq d := ⟨h1, by omega, h3⟩
  obtain ⟨r1, r2⟩ := rt_99 h1 h2 h3
  obtain ⟨n1, n2, n3, n4, _⟩ := pdN_spec h1 h2 h3
  obtain ⟨hp, hk⟩ := puX_good h hu
  obtain ⟨m, hm⟩ : ∃ m, pdN d = m + 1 := ⟨pdN d - 1, by omega⟩
  have hred := red_first hd
  rw [hm, show m + 1 - 1 = m by omega] at hp
  have hS := unR_S h1 h2 h3
  rw [hu, hm, show m + 1 - 1 = m by omega] at hS
  obtain ⟨hun, hpl⟩ : unS (rtI d :: asL d m) 1 0 0 1 = some (x, y) ∧ plB d x y = true := by
    cases hr : unS (rtI d :: asL d m) 1 0 0 1 with
    | none => rw [hr] at hS; cases hS
    | some p =>
      rw [hr] at hS
      have hf := Option.filter_eq_some_iff.1 hS.symm
      obtain ⟨f1, f2⟩ := hf
      injection f1 with f1
      subst f1
      exact ⟨rfl, f2⟩
  obtain ⟨⟨x1, x2⟩, ⟨y1, y2⟩, _⟩ := plB_true.1 hpl
  have hdrop : (puX d).drop 3 = rtI d :: asL d m := by rw [hp]; rfl
  have hlen : (puX d).length = m + 4 := by rw [hp]; simp [asL_length]
  have hone : itS (fsS d) m = (rtI d, d, 1) := by
    rw [hm] at n3
    exact red_inj hd (red_it hd hred m) (red_root hd) (n3.trans (red_one hd (red_root hd) rfl).2.symm)
  have hal : along (0, d, 1) (rtI d :: asL d m) = some ((0, d, 1) :: (List.range (m + 1)).map (itS (fsS d))) := by
    obtain ⟨k1, k2, k3⟩ := next_root hd
    have hok : sdOk (fsS d) = true := red_ok hd hred
    unfold along
    rw [if_pos k3, alg, k1, k2, hok, decide_eq_true rfl]
    have := alg_it hd m (fsS d) hred
    unfold asL
    rw [this, List.range_succ_eq_map]
    simp
    rfl
  have hq : ∀ j, j < m + 1 → qS ((0, d, 1) :: (List.range (m + 1)).map (itS (fsS d))) (j + 1) = (itS (fsS d) j).2.2 := fun j hj => by
    unfold qS
    rw [List.getD_cons_succ, List.getD_eq_getElem?_getD, List.getElem?_map, List.getElem?_range hj]
    rfl
  refine ⟨hk, ?_, ?_⟩
  · unfold unB
    have g0 : (puX d).getD 0 0 = d := by rw [hp]; rfl
    have g1 : (puX d).getD 1 0 = x := by rw [hp]; rfl
    have g2 : (puX d).getD 2 0 = y := by rw [hp]; rfl
    rw [g0, g1, g2, hdrop, hal, decide_eq_true (by omega), inR_true.2 ⟨h1, h2⟩]
    simp only [Bool.true_and, Bool.and_eq_true, beq_iff_eq]
    refine ⟨?_, ?_, ?_⟩
    · unfold midQ
      rw [show ((0, d, 1) :: (List.range (m + 1)).map (itS (fsS d)) : List Sd).length - 2 = m by simp]
      refine allK_all m fun k hk => ?_
      unfold midP
      rw [hq k (by omega), bne_iff_ne]
      intro e
      exact n4 (k + 1) (by omega) (by omega) (red_one hd (red_it hd hred k) e).2
    · unfold lastQ
      rw [show ((0, d, 1) :: (List.range (m + 1)).map (itS (fsS d)) : List Sd).length - 1 = m + 1 by simp, hq m (by omega), hone]
      rfl
    · unfold mtxLast
      rw [mtx_unS]
      exact hun
  · refine nb_of (by omega) fun t ht => ?_
    rw [hp] at ht
    simp only [List.cons_append, List.nil_append, List.mem_cons] at ht
    rcases ht with rfl | rfl | rfl | rfl | ht
    · omega
    · omega
    · omega
    · omega
    · have := asL_pos hd m t ht
      omega
/-- The walk to the first surd that comes again, as terms. -/
theorem per_alg : ∀ (k : Nat) (L : List Sd) (s : Sd) (R : List Sd) (i : Nat), per k L s = some (R, i) → L.Nodup → ∃ (M N : List Sd) (z : Sd), R = L ++ M ∧ alg (M.map flS) s = some N ∧ s :: N = M ++ [z] ∧ z ∈ R ∧ i = R.idxOf z ∧ R.Nodup
  | 0, L, s, R, i, h, hn => by
    unfold per at h
    split at h
    · rename_i g
      injection h with h
      injection h with h1 h2
      subst h1
      exact ⟨[], [], s, by simp, rfl, rfl, g, h2.symm, hn⟩
    · cases h
  | k + 1, L, s, R, i, h, hn => by
    unfold per at h
    split at h
    · rename_i g
      injection h with h
      injection h with h1 h2
      subst h1
      exact ⟨[], [], s, by simp, rfl, rfl, g, h2.symm, hn⟩
    · rename_i g
      split at h
      · rename_i ok
        have hn2 : (L ++ [s]).Nodup := by
          rw [List.nodup_append]
          refine ⟨hn, by simp, fun a ha b hb => ?_⟩
          simp only [List.mem_cons, List.not_mem_nil, or_false] at hb
          subst hb
          intro e
          subst e
          exact g ha
        obtain ⟨M, N, z, e1, e2, e3, e4, e5, e6⟩ := per_alg k (L ++ [s]) (nxS s) R i h hn2
        refine ⟨s :: M, nxS s :: N, z, by rw [e1]; simp, ?_, by rw [e3]; rfl, e4, e5, e6⟩
        rw [List.map_cons, alg, ok, decide_eq_true rfl]
        simp [e2]
      · cases h
/-- A period that is proved. -/
theorem pe_acc {s : Sd} (h : pdC s = 0) : ppK s = 5 ∧ peB (ppX s) = true ∧ nbB (ppX s) = true := by
  cases hR : pdR s with
  | none => exact absurd h (pdR_none hR)
  | some R =>
    obtain ⟨L, i⟩ := R
    obtain ⟨hs, hp, _, hi, hl⟩ := pdR_facts hR
    have hx := ppX_some' hR
    have hk : ppK s = 5 := by unfold ppK; simp [hR]
    obtain ⟨M, N, z, e1, e2, e3, e4, e5, e6⟩ := per_alg 400 [] s L i hp (by simp)
    rw [List.nil_append] at e1
    subst e1
    have hal : along s (L.map flS) = some (L ++ [z]) := by
      unfold along
      rw [if_pos hs, e2]
      simp only [Option.map_some, e3]
    obtain ⟨p, d, q⟩ := s
    have hlen : (ppX (p, d, q)).length = L.length + 5 := by rw [hx]; simp
    refine ⟨hk, ?_, ?_⟩
    · have g0 : (ppX (p, d, q)).getD 0 0 = p := by rw [hx]; rfl
      have g1 : (ppX (p, d, q)).getD 1 0 = d := by rw [hx]; rfl
      have g2 : (ppX (p, d, q)).getD 2 0 = q := by rw [hx]; rfl
      have g3 : (ppX (p, d, q)).getD 3 0 = (i : Int) := by rw [hx]; rfl
      have g4 : (ppX (p, d, q)).getD 4 0 = (L.length : Int) - (i : Int) := by rw [hx]; rfl
      have hdrop : (ppX (p, d, q)).drop 5 = L.map flS := by rw [hx]; rfl
      unfold peB
      rw [g0, g1, g2, g3, g4, hdrop, hal, hlen]
      simp only [Bool.and_eq_true, decide_eq_true_eq, beq_iff_eq]
      refine ⟨by omega, by omega, by omega, by omega, ?_, ?_⟩
      · rw [show (L ++ [z]).length - 1 = L.length by simp, List.take_left]
        exact e6
      · rw [show (L ++ [z]).length - 1 = L.length by simp]
        have k1 : (L ++ [z]).getD L.length (0, 0, 0) = z := by
          rw [List.getD_eq_getElem?_getD, List.getElem?_append_right (Nat.le_refl _)]
          simp
        have k2 : (L ++ [z]).getD ((i : Int)).toNat (0, 0, 0) = z := by
          rw [Int.toNat_natCast, List.getD_eq_getElem?_getD, List.getElem?_append_left hi, List.getElem?_eq_getElem hi]
          simp only [Option.getD_some]
          subst e5
          exact List.getElem_idxOf hi
        rw [k1, k2]
    · have hok := along_ok hal
      obtain ⟨⟨d1, d2⟩, _, ⟨p1, p2⟩, ⟨q1, q2, _⟩, _⟩ := step_bds (p := p) (d := d) (q := q) hs
      have hD : (2 : Int) ≤ d ∧ d ≤ 1000000 := ⟨d1, d2⟩
      refine nb_of (by omega) fun t ht => ?_
      rw [hx] at ht
      simp only [List.cons_append, List.nil_append, List.mem_cons] at ht
      rcases ht with rfl | rfl | rfl | rfl | rfl | ht
      · omega
      · omega
      · omega
      · omega
      · omega
      · obtain ⟨u, hu, rfl⟩ := List.mem_map.1 ht
        obtain ⟨u1, u2, u3⟩ := u
        have := (step_bds (p := u1) (d := u2) (q := u3) (hok (u1, u2, u3) (by simp [hu]))).2.2.2.2.1
        omega
/-- A fraction that is best, by itself. -/
theorem ne_near {n d : Int} (h1 : fracOk n d = true) (h2 : smallFB n d = true) : neB [n, d, n, d, n, d, n, d] = true ∧ nbB [n, d, n, d, n, d, n, d] = true := by
  obtain ⟨a1, a2, a3, a4, _⟩ := fracOk_true.1 h1
  constructor
  · unfold neB neG
    have hb : bestC true [(n, d), (n, d), (n, d), (n, d)] = 0 := by unfold bestC; simp [h1, h2]
    simp only [List.getD_cons_zero, List.getD_cons_succ]
    rw [hb, if_pos (Int.le_refl _)]
    simp [frEq]
  · refine nb_of (by simp) fun x hx => ?_
    simp only [List.mem_cons, List.not_mem_nil, or_false] at hx
    omega
/-- .. by its neighbours. -/
theorem ne_far {n d p q A B C E : Int} (h1 : fracOk n d = true) (h2 : smallFB n d = true) (F : Fr n d q) (S : Sides n d q A B C E) (hb : isB p q A B C E (cmp3 (errV n d A B * E) (errV n d C E * B)) = true) :
    neB [n, d, p, q, A, B, C, E] = true ∧ nbB [n, d, p, q, A, B, C, E] = true := by
  obtain ⟨ba, bb, bc, be⟩ := S.1.bd F
  unfold big6 at ba bb bc be
  have b1 := S.1.b1
  have b2 := S.1.b2
  have e1 := S.1.e1
  have e2 := S.1.e2
  have lo := S.1.lo
  have hi := S.1.hi
  have hdet := S.1.det
  have hS2 := S.2
  obtain ⟨a1, a2, a3, a4, _⟩ := fracOk_true.1 h1
  have hp : (p = A ∧ q = B) ∨ (p = C ∧ q = E) := by
    have h := hb
    unfold isB frEq at h
    simp only [Bool.or_eq_true, Bool.and_eq_true, decide_eq_true_eq, beq_iff_eq] at h
    rcases h with ⟨⟨h1, h2⟩, _⟩ | ⟨⟨h1, h2⟩, _⟩
    · exact .inl ⟨h1, h2⟩
    · exact .inr ⟨h1, h2⟩
  have fA : fracOk A B = true := fracOk_true.2 ⟨b1, by omega, by omega, by omega, gcd_det (x := C) (y := E) (.inr (by grind))⟩
  have fC : fracOk C E = true := fracOk_true.2 ⟨e1, by omega, by omega, by omega, gcd_det (x := A) (y := B) (.inl (by grind))⟩
  have sA : smallFB A B = true := by
    unfold smallFB
    simp only [Bool.and_eq_true, inR_true, decide_eq_true_eq]
    omega
  have sC : smallFB C E = true := by
    unfold smallFB
    simp only [Bool.and_eq_true, inR_true, decide_eq_true_eq]
    omega
  have fp : fracOk p q = true ∧ smallFB p q = true := by
    rcases hp with ⟨rfl, rfl⟩ | ⟨rfl, rfl⟩
    · exact ⟨fA, sA⟩
    · exact ⟨fC, sC⟩
  have hlt := F.lt
  constructor
  · unfold neB neG
    have hb4 : bestC true [(n, d), (p, q), (A, B), (C, E)] = 0 := by unfold bestC; simp [h1, h2, fA, fC, sA, sC, fp.1, fp.2]
    simp only [List.getD_cons_zero, List.getD_cons_succ]
    rw [hb4, if_neg (by omega), hb, decide_eq_true (show A * d < n * B by omega), decide_eq_true (show n * E < C * d by omega), decide_eq_true hdet, decide_eq_true b2, decide_eq_true e2, decide_eq_true hS2]
    rfl
  · refine nb_of (by simp) fun x hx => ?_
    simp only [List.mem_cons, List.not_mem_nil, or_false] at hx
    obtain ⟨f1, f2, f3, f4, _⟩ := fracOk_true.1 fp.1
    omega
/-- What is asked about a fraction, and what is proved of it. -/
theorem best_acc (n d p q : Int) : ∃ (b : Bool) (k kk : Int) (xs : List Int) (code : Int), Hid (∀ W, Calls Tryz.prog 14 #[fracV n d, fracV p q] W fun e w' => e = .returned (.tuple #[.bool b, .int .i64 k]) ∧ Below W.heap.size W w') ∧ Hid (∀ W, Calls Tryz.prog 25 #[fracV n d, fracV p q] W (RetCertC W kk xs code)) ∧ b = decide (code = 0) ∧ (b = true → kk = 6 ∧ neB xs = true ∧ nbB xs = true) ∧ xs.length ≤ 8 := by
  by_cases h0 : bestC true [(n, d), (p, q)] = 0
  · obtain ⟨f1, s1, f2, s2⟩ := bestC_zero h0
    obtain ⟨n1, n2, d1, d2⟩ := small_bd s1 f1
    obtain ⟨p1, p2, q1, q2⟩ := small_bd s2 f2
    by_cases hd : d ≤ q
    · have H1 : Hid (∀ W, Calls Tryz.prog 45 #[fracV n d, fracV p q] W fun e w' => e = .returned (.bool (frEq p q n d)) ∧ Below W.heap.size W w') := fun W => l18First_near n d p q W hd
      have H2 : Hid (∀ W, Calls Tryz.prog 105 #[fracV n d, fracV p q] W fun e w' => e = .returned (.bool (frEq p q n d)) ∧ Below W.heap.size W w') := fun W => isBestFirst_near n d p q W hd s1 f1
      cases hb : frEq p q n d with
      | false =>
        rw [hb] at H1 H2
        exact ⟨false, 0, 0, [], 3, Lib.hid fun W => sIsBestFirst_is_good n d p q _ W h0 H1, Lib.hid fun W => iProveBest_no n d p q W (fun W => iIsBestFirst_is_good n d p q _ W h0 H2), by decide, (fun h => by cases h), by simp⟩
      | true =>
        obtain ⟨rfl, rfl⟩ := frEq_true.1 hb
        rw [hb] at H1 H2
        exact ⟨true, 0, 6, [p, q, p, q, p, q, p, q], 0, Lib.hid fun W => sIsBestFirst_is_good p q p q _ W h0 H1, Lib.hid fun W => iProveBest_yes p q p q p q p q W (fun W => iIsBestFirst_is_good p q p q _ W h0 H2) (fun W => around_near p q q W hd), by decide, (fun _ => ⟨rfl, ne_near f1 s1⟩), by simp⟩
    · have F : Fr n d q := ⟨n1, n2, d2, q1, by omega, (fracOk_true.1 f1).2.2.2.2⟩
      obtain ⟨A, B, C, E, S⟩ := sides_ex F
      have H1 : Hid (∀ W, Calls Tryz.prog 45 #[fracV n d, fracV p q] W fun e w' => e = .returned (.bool (isB p q A B C E (cmp3 (errV n d A B * E) (errV n d C E * B)))) ∧ Below W.heap.size W w') := fun W => l18First_far n d p q A B C E W F S
      have H2 : Hid (∀ W, Calls Tryz.prog 105 #[fracV n d, fracV p q] W fun e w' => e = .returned (.bool (isB p q A B C E (cmp3 (errV n d A B * E) (errV n d C E * B)))) ∧ Below W.heap.size W w') := fun W => isBestFirst_far n d p q A B C E W F S
      cases hb : isB p q A B C E (cmp3 (errV n d A B * E) (errV n d C E * B)) with
      | false =>
        rw [hb] at H1 H2
        exact ⟨false, 0, 0, [], 3, Lib.hid fun W => sIsBestFirst_is_good n d p q _ W h0 H1, Lib.hid fun W => iProveBest_no n d p q W (fun W => iIsBestFirst_is_good n d p q _ W h0 H2), by decide, (fun h => by cases h), by simp⟩
      | true =>
        rw [hb] at H1 H2
        exact ⟨true, 0, 6, [n, d, p, q, A, B, C, E], 0, Lib.hid fun W => sIsBestFirst_is_good n d p q _ W h0 H1, Lib.hid fun W => iProveBest_yes n d p q A B C E W (fun W => iIsBestFirst_is_good n d p q _ W h0 H2) (fun W => around_far n d q A B C E W F S), by decide, (fun _ => ⟨rfl, ne_far f1 s1 F S hb⟩), by simp⟩
  · exact ⟨false, _, 0, [], _, Lib.hid fun W => sIsBestFirst_is_bad n d p q _ W rfl h0, Lib.hid fun W => iProveBest_bad n d p q _ false W h0 (fun W => iIsBestFirst_is_bad n d p q _ W rfl h0), by rw [eq_comm, decide_eq_false_iff_not]; exact h0, (fun h => by cases h), by simp⟩
end Go.Proofs.YtpgkellmhlmjeaaGreatDoor
namespace Go.Proofs.YtpgkellmhlmjeaaGreatDoor
open Go.RowKit Go.Sort
/-- The nearer one of two neighbours. -/
def nrP (A B C E c : Int) : Int × Int := if 0 < c ∨ (c = 0 ∧ E < B) then (C, E) else (A, B)
theorem cmp3_or (a b : Int) : cmp3 a b = -1 ∨ cmp3 a b = 0 ∨ cmp3 a b = 1 := by unfold cmp3; split <;> (try split) <;> simp
set_option maxRecDepth 100000 in
set_option maxHeartbeats 2000000 in
theorem l18Nearest_of (n d m A B C E : Int) (w : World) (hn : big6 n) (hd : big6 d) (ha : big6 A) (hb : big6 B) (hc : big6 C) (he : big6 E)
    (HS : Hid (∀ W, Calls Tryz.prog 95 #[fracV n d, .int .i64 m] W fun e w' => e = .returned (.tuple #[fracV A B, fracV C E]) ∧ Below W.heap.size W w')) :
    Calls Tryz.prog 50 #[fracV n d, .int .i64 m] w fun e w' => e = .returned (fracV (nrP A B C E (cmp3 (errV n d A B * E) (errV n d C E * B))).1 (nrP A B C E (cmp3 (errV n d A B * E) (errV n d C E * B))).2) ∧ Below w.heap.size w w' := by
  have HC := Lib.hid (l18Compare_any n d A B C E · hn hd ha hb hc he)
  have hcc := cmp3_or (errV n d A B * E) (errV n d C E * B)
  generalize cmp3 (errV n d A B * E) (errV n d C E * B) = c at *
  clear hn hd ha hb hc he
  have HN : Hid (nrP A B C E c = if 0 < c ∨ (c = 0 ∧ E < B) then (C, E) else (A, B)) := rfl
  generalize nrP A B C E c = P at *
  obtain ⟨P0, P1⟩ := P
  dsimp only
  have G1 := Lib.hid ((B2.new w n d 41).next (ext1 _ (.cells #[.int .i64 0, .int .i64 0] 41)))
  have G2 := Lib.hid (B2.new_at (g := w.heap.size + 1) (W := w.alloc (.cells #[.int .i64 n, .int .i64 d] 41)) 0 0 41 (by simp))
  have HB0 := Lib.hid (ext_alloc (ext1 w (.cells #[.int .i64 n, .int .i64 d] 41)) (.cells #[.int .i64 0, .int .i64 0] 41))
  unfold fracV at *
  go_enter Tryz.func50, Tryz.ntmps50
  go_wp2_with fail
  refine (HS.out _).mono ?_
  rintro x w1 ⟨rfl, hb1⟩
  have G1 := Lib.hid (G1.out.next hb1)
  have G2 := Lib.hid (G2.out.next hb1)
  have hbe1 := Lib.hid (ext_trans HB0.out hb1)
  have G3 := Lib.hid ((B2.new w1 A B 41).next (ext1 _ (.cells #[.int .i64 C, .int .i64 E] 41)))
  have G4 := Lib.hid (B2.new_at (g := w1.heap.size + 1) (W := w1.alloc (.cells #[.int .i64 A, .int .i64 B] 41)) C E 41 (by simp))
  have hb2 := ext_alloc (ext1 w1 (.cells #[.int .i64 A, .int .i64 B] 41)) (.cells #[.int .i64 C, .int .i64 E] 41)
  have G1 := Lib.hid (G1.out.next hb2)
  have G2 := Lib.hid (G2.out.next hb2)
  have hbe2 := Lib.hid (ext_trans hbe1.out hb2)
  clear hb1 hb2 HB0 hbe1
  obtain ⟨x0, x1, _, _⟩ := G1.out
  obtain ⟨y0, y1, _, _⟩ := G3.out
  obtain ⟨z0, z1, _, _⟩ := G4.out
  go_wp2_with fail
  refine (HC.out _).mono ?_
  rintro x w2 ⟨rfl, hb3⟩
  have G2 := Lib.hid (G2.out.next hb3)
  have hbe := Lib.hid (ext_trans hbe2.out hb3)
  obtain ⟨y0, y1, _, _⟩ := G3.out.next hb3
  obtain ⟨z0, z1, _, _⟩ := G4.out.next hb3
  obtain ⟨r0, r1, rf, _⟩ := G2.out
  have rf0 := rf 0
  have rf1 := rf 1
  clear hb3 rf hbe2 G1 G2 G3 G4
  rcases hcc with rfl | rfl | rfl
  · have HP : Hid ((P0, P1) = (A, B)) := by unfold Hid; rw [HN.out]; exact if_neg (by omega)
    injection HP.out with h1 h2
    subst h1
    subst h2
    clear HN HP
    obtain ⟨t0, t1⟩ := set_two r0 r1
    go_wp2
    refine bodyPost_ret ?_ rfl ⟨rfl, ext_set (ext_set hbe.out (by simp) _) (by simp) _⟩
    simp [results, Tryz.results50, go_sem, t0, t1]
  · by_cases hEB : E < B
    · have HP : Hid ((P0, P1) = (C, E)) := by unfold Hid; rw [HN.out]; exact if_pos (by omega)
      injection HP.out with h1 h2
      subst h1
      subst h2
      clear HN HP
      obtain ⟨t0, t1⟩ := set_two r0 r1
      go_wp2
      refine bodyPost_ret ?_ rfl ⟨rfl, ext_set (ext_set hbe.out (by simp) _) (by simp) _⟩
      simp [results, Tryz.results50, go_sem, t0, t1]
    · have HP : Hid ((P0, P1) = (A, B)) := by unfold Hid; rw [HN.out]; exact if_neg (by omega)
      injection HP.out with h1 h2
      subst h1
      subst h2
      clear HN HP
      obtain ⟨t0, t1⟩ := set_two r0 r1
      go_wp2
      refine bodyPost_ret ?_ rfl ⟨rfl, ext_set (ext_set hbe.out (by simp) _) (by simp) _⟩
      simp [results, Tryz.results50, go_sem, t0, t1]
  · have HP : Hid ((P0, P1) = (C, E)) := by unfold Hid; rw [HN.out]; exact if_pos (by omega)
    injection HP.out with h1 h2
    subst h1
    subst h2
    clear HN HP
    obtain ⟨t0, t1⟩ := set_two r0 r1
    go_wp2
    refine bodyPost_ret ?_ rfl ⟨rfl, ext_set (ext_set hbe.out (by simp) _) (by simp) _⟩
    simp [results, Tryz.results50, go_sem, t0, t1]
set_option maxHeartbeats 1000000 in
theorem l18Most_any (n d m : Int) (w : World) :
    Calls Tryz.prog 49 #[fracV n d, .int .i64 m] w fun e w' => e = .returned (.int .i64 (bestC (inR m 1 1000000) [(n, d)])) ∧ Below w.heap.size w w' := by
  obtain ⟨k, hk⟩ : ∃ k, bestC true [(n, d)] = k := ⟨_, rfl⟩
  have HK : Hid (∀ (W : World) (g c : Nat), g = W.heap.size → Calls Tryz.prog 44 #[.slice (some ⟨g, 0, none⟩) 1 c] (W.alloc (.cells #[.int .i64 n, .int .i64 d] 41)) fun e w' => e = .returned (.int .i64 k) ∧ Below (W.alloc (.cells #[.int .i64 n, .int .i64 d] 41)).heap.size (W.alloc (.cells #[.int .i64 n, .int .i64 d] 41)) w') := fun W g c hg => by
    have := l18Code_any (some ⟨g, 0, none⟩) c [(n, d)] (W.alloc (.cells #[.int .i64 n, .int .i64 d] 41)) (Wr.lit' W hg rfl).rd (by simp)
    rw [hk] at this
    exact this
  have HI := Lib.hid (fun W : World => l00In_any m 1 1000000 W)
  have HB : Hid (bestC (inR m 1 1000000) [(n, d)] = if k = 0 then (if inR m 1 1000000 = true then 0 else 2) else k) := by
    unfold Hid
    subst hk
    unfold bestC
    cases inR m 1 1000000 <;> simp <;> split <;> simp
    all_goals try (split <;> simp)
  rw [HB.out]
  clear HB
  by_cases h0 : k = 0
  · subst h0
    rw [if_pos rfl]
    generalize inR m 1 1000000 = b at *
    clear hk
    unfold fracV
    cases b
    · go_enter Tryz.func49, Tryz.ntmps49
      go_wp2_with fail
      refine (HK.out _ _ _ (by simp)).mono ?_
      rintro e w1 ⟨rfl, hb⟩
      have HE := Lib.hid (ext_trans (ext_alloc (ext1 w (.cells #[.int .i64 n, .int .i64 d] 41)) (.cells #[.int .i64 n, .int .i64 d] 41)) hb)
      clear hb
      go_wp2_with fail
      refine (HI.out _).mono ?_
      rintro e w' ⟨rfl, rfl⟩
      go_wp2
      go_ret
      exact ⟨rfl, HE.out⟩
    · go_enter Tryz.func49, Tryz.ntmps49
      go_wp2_with fail
      refine (HK.out _ _ _ (by simp)).mono ?_
      rintro e w1 ⟨rfl, hb⟩
      have HE := Lib.hid (ext_trans (ext_alloc (ext1 w (.cells #[.int .i64 n, .int .i64 d] 41)) (.cells #[.int .i64 n, .int .i64 d] 41)) hb)
      clear hb
      go_wp2_with fail
      refine (HI.out _).mono ?_
      rintro e w' ⟨rfl, rfl⟩
      go_wp2
      go_ret
      exact ⟨rfl, HE.out⟩
  · rw [if_neg h0]
    have e1 : (k == 0) = false := by simpa using h0
    clear hk h0
    unfold fracV
    go_enter Tryz.func49, Tryz.ntmps49
    go_wp2_with fail
    refine (HK.out _ _ _ (by simp)).mono ?_
    rintro e w1 ⟨rfl, hb⟩
    have HE := Lib.hid (ext_trans (ext_alloc (ext1 w (.cells #[.int .i64 n, .int .i64 d] 41)) (.cells #[.int .i64 n, .int .i64 d] 41)) hb)
    clear hb
    go_wp2
    go_ret
    exact ⟨rfl, HE.out⟩
/-- What is nearest: a fraction, and a code. -/
def nrF (n d m : Int) (P : Int × Int) : Prop := (bestC (inR m 1 1000000) [(n, d)] ≠ 0 → P = (0, 0)) ∧ (bestC (inR m 1 1000000) [(n, d)] = 0 → (d ≤ m → P = (n, d)) ∧ (m < d → ∃ A B C E, Sides n d m A B C E ∧ P = nrP A B C E (cmp3 (errV n d A B * E) (errV n d C E * B))))
theorem best1_zero {n d m : Int} (h : bestC (inR m 1 1000000) [(n, d)] = 0) : fracOk n d = true ∧ smallFB n d = true ∧ 1 ≤ m ∧ m ≤ 1000000 := by
  unfold bestC at h
  split at h
  · rename_i h1
    split at h
    · rename_i h2
      simp at h1 h2
      obtain ⟨a, b⟩ := inR_true.1 h2.1
      exact ⟨h1, h2.2, a, b⟩
    · cases h
  · cases h
theorem nrP_self (n d : Int) : nrP n d n d (cmp3 (errV n d n d * d) (errV n d n d * d)) = (n, d) := by
  unfold nrP
  split <;> rfl
set_option maxRecDepth 100000 in
set_option maxHeartbeats 2000000 in
theorem sNearest_any (n d m : Int) : ∃ P, nrF n d m P ∧ ∀ w, Calls Tryz.prog 19 #[fracV n d, .int .i64 m] w fun e w' => e = .returned (.tuple #[fracV P.1 P.2, .int .i64 (bestC (inR m 1 1000000) [(n, d)])]) ∧ Below w.heap.size w w' := by
  by_cases h0 : bestC (inR m 1 1000000) [(n, d)] = 0
  · obtain ⟨f1, s1, m1, m2⟩ := best1_zero h0
    obtain ⟨n1, n2, d1, d2⟩ := small_bd s1 f1
    have HX : ∃ P, nrF n d m P ∧ ∀ W, Calls Tryz.prog 50 #[fracV n d, .int .i64 m] W fun e w' => e = .returned (fracV P.1 P.2) ∧ Below W.heap.size W w' := by
      rcases Int.lt_or_le m d with hd | hd
      · have F : Fr n d m := ⟨n1, n2, d2, m1, hd, (fracOk_true.1 f1).2.2.2.2⟩
        obtain ⟨A, B, C, E, S⟩ := sides_ex F
        obtain ⟨ba, bb, bc, be⟩ := S.1.bd F
        refine ⟨nrP A B C E (cmp3 (errV n d A B * E) (errV n d C E * B)), ⟨fun h => absurd h0 h, fun _ => ⟨fun h => absurd h (by omega), fun _ => ⟨A, B, C, E, S, rfl⟩⟩⟩, fun W => ?_⟩
        exact l18Nearest_of n d m A B C E W ⟨n1, n2⟩ ⟨by omega, d2⟩ ba bb bc be (Lib.hid fun W' => l18Sides_far n d m A B C E W' F S)
      · refine ⟨(n, d), ⟨fun h => absurd h0 h, fun _ => ⟨fun _ => rfl, fun h => absurd h (by omega)⟩⟩, fun W => ?_⟩
        have h := l18Nearest_of n d m n d n d W ⟨n1, n2⟩ ⟨by omega, d2⟩ ⟨n1, n2⟩ ⟨by omega, d2⟩ ⟨n1, n2⟩ ⟨by omega, d2⟩ (Lib.hid fun W' => l18Sides_near n d m W' hd)
        rw [nrP_self] at h
        exact h
    obtain ⟨P, hP, HN⟩ := HX
    refine ⟨P, hP, fun w => ?_⟩
    have HN := Lib.hid HN
    have HM := Lib.hid (fun W : World => l18Most_any n d m W)
    rw [h0] at HM
    rw [h0]
    clear h0 hP f1 s1 m1 m2 n1 n2 d1 d2
    have G1 := Lib.hid ((B2.new w n d 41).next (ext1 _ (.cells #[.int .i64 0, .int .i64 0] 41)))
    have G2 := Lib.hid (B2.new_at (g := w.heap.size + 1) (W := w.alloc (.cells #[.int .i64 n, .int .i64 d] 41)) 0 0 41 (by simp))
    have HB0 := Lib.hid (ext_alloc (ext1 w (.cells #[.int .i64 n, .int .i64 d] 41)) (.cells #[.int .i64 0, .int .i64 0] 41))
    obtain ⟨P0, P1⟩ := P
    dsimp only at *
    unfold fracV at *
    go_enter Tryz.func19, Tryz.ntmps19
    go_wp2_with fail
    refine (HM.out _).mono ?_
    rintro x w1 ⟨rfl, hb1⟩
    have G1 := Lib.hid (G1.out.next hb1)
    have G2 := Lib.hid (G2.out.next hb1)
    have hbe1 := Lib.hid (ext_trans HB0.out hb1)
    obtain ⟨x0, x1, _, _⟩ := G1.out
    clear hb1
    go_wp2_with fail
    refine (HN.out _).mono ?_
    rintro x w2 ⟨rfl, hb3⟩
    have G2 := Lib.hid (G2.out.next hb3)
    have hbe := Lib.hid (ext_trans hbe1.out hb3)
    obtain ⟨r0, r1, rf, _⟩ := G2.out
    have rf0 := rf 0
    have rf1 := rf 1
    clear hb3 rf hbe1 G1 G2 x0 x1
    obtain ⟨t0, t1⟩ := set_two r0 r1
    go_wp2
    refine bodyPost_ret (v := .tuple #[fracV P0 P1, .int .i64 0]) (by simp [fracV, results, Tryz.results19, go_sem, t0, t1]; done) rfl ⟨rfl, ext_set (ext_set hbe.out (by simp) _) (by simp) _⟩
  · refine ⟨(0, 0), ⟨fun _ => rfl, fun h => absurd h h0⟩, fun w => ?_⟩
    have HM := Lib.hid (fun W : World => l18Most_any n d m W)
    have e1 : (bestC (inR m 1 1000000) [(n, d)] != 0) = true := by simpa using h0
    generalize bestC (inR m 1 1000000) [(n, d)] = k at *
    clear h0
    have G2 := Lib.hid (B2.new_at (g := w.heap.size + 1) (W := w.alloc (.cells #[.int .i64 n, .int .i64 d] 41)) 0 0 41 (by simp))
    have HB0 := Lib.hid (ext_alloc (ext1 w (.cells #[.int .i64 n, .int .i64 d] 41)) (.cells #[.int .i64 0, .int .i64 0] 41))
    unfold fracV at *
    go_enter Tryz.func19, Tryz.ntmps19
    go_wp2_with fail
    refine (HM.out _).mono ?_
    rintro x w1 ⟨rfl, hb1⟩
    have G2 := Lib.hid (G2.out.next hb1)
    have hbe := Lib.hid (ext_trans HB0.out hb1)
    obtain ⟨r0, r1, rf, _⟩ := G2.out
    have rf0 := rf 0
    have rf1 := rf 1
    clear hb1 rf G2
    obtain ⟨t0, t1⟩ := set_two r0 r1
    go_wp2
    refine bodyPost_ret (v := .tuple #[fracV 0 0, .int .i64 k]) (by simp [fracV, results, Tryz.results19, go_sem, t0, t1]; done) rfl ⟨rfl, ext_set (ext_set hbe.out (by simp) _) (by simp) _⟩
end Go.Proofs.YtpgkellmhlmjeaaGreatDoor
namespace Go.Proofs.YtpgkellmhlmjeaaGreatDoor
open Go.RowKit Go.Sort
theorem cc_of {k : Int} {xs : List Int} (h1 : 1 ≤ k) (h2 : k ≤ 6) (h3 : nbB xs = true) (h4 : ccK k xs = true) : ccB k xs = true := by
  unfold ccB bdC
  rw [inR_true.2 ⟨h1, h2⟩, h3, h4]
  rfl
theorem gcd_law {a b : Int} (a1 : -900000000 ≤ a) (a2 : a ≤ 900000000) (b1 : -900000000 ≤ b) (b2 : b ≤ 900000000) : ∃ (kk : Int) (xs : List Int) (code : Int), Hid (∀ W, Calls Tryz.prog 20 #[.int .i64 a, .int .i64 b] W (RetCertC W kk xs code)) ∧ ((code = 0 ∧ kk = 1 ∧ ccB 1 xs = true) ∨ (code = 6 ∧ a = 0 ∧ b = 0)) := by
  refine ⟨_, _, _, Lib.hid fun W => iProveGcd_any a b W, ?_⟩
  by_cases h0 : a = 0 ∧ b = 0
  · refine .inr ⟨?_, h0⟩
    unfold pgC
    rw [modB_true.2 ⟨by omega, by omega⟩, modB_true.2 ⟨by omega, by omega⟩]
    simp [h0]
  · obtain ⟨h1, h2, h3⟩ := gc_acc a1 a2 b1 b2 h0
    refine .inl ⟨h1, ?_, cc_of (by decide) (by decide) h3 (by simp only [ccK, if_true]; exact h2)⟩
    unfold pgK
    rw [if_pos h1]
theorem root_law {d : Int} (h1 : 2 ≤ d) (h2 : d ≤ 702) (h3 : sqB d = false) : ∃ xs : List Int, Hid (∀ W, Calls Tryz.prog 21 #[.int .i64 d] W (RetCertC W 2 xs 0)) ∧ ccB 2 xs = true := by
  obtain ⟨k1, k2, k3⟩ := ro_acc (n := d) (by omega) (by omega) h3
  refine ⟨prX d, Lib.hid fun W => ?_, cc_of (by decide) (by decide) k3 (by simp only [ccK, Int.reduceEq, if_true, if_false]; exact k2)⟩
  have h := iProveRoot_any d W
  have hk : prK d = 2 := by unfold prK; rw [if_pos k1]
  rw [k1, hk] at h
  exact h
theorem lin_law {k : Int} (h1 : 0 ≤ k) (h2 : k ≤ 1000) : ∃ xs : List Int, Hid (∀ W, Calls Tryz.prog 22 #[.int .i64 6, .int .i64 9, .int .i64 (3 * k + 1)] W (RetCertC W 3 xs 0)) ∧ ccB 3 xs = true := by
  obtain ⟨k1, k2, k3⟩ := li_acc h1 h2
  refine ⟨linX 6 9 (3 * k + 1), Lib.hid fun W => ?_, cc_of (by decide) (by decide) k3 (by simp only [ccK, Int.reduceEq, if_true, if_false]; exact k2)⟩
  have h := iProveLinear_any 6 9 (3 * k + 1) W
  have hk : linK 6 9 (3 * k + 1) = 3 := by unfold linK; rw [if_pos k1]
  rw [k1, hk] at h
  exact h
theorem unit_law {d : Int} (h1 : 2 ≤ d) (h2 : d ≤ 702) (h3 : sqB d = false) : ∃ (kk : Int) (xs : List Int) (code : Int), Hid (∀ W, Calls Tryz.prog 23 #[.int .i64 d] W (RetCertC W kk xs code)) ∧ ((code = 0 ∧ kk = 4 ∧ ccB 4 xs = true) ∨ code = 5) := by
  refine ⟨_, _, _, Lib.hid fun W => iProveUnit_any d W, ?_⟩
  have hpc : pcC d = 0 := by
    unfold pcC
    rw [inR_true.2 ⟨h1, by omega⟩, h3]
    rfl
  by_cases h0 : utC d = 0
  · obtain ⟨k1, k2, k3⟩ := un_acc h0
    exact .inl ⟨h0, k1, cc_of (by decide) (by decide) k3 (by simp only [ccK, Int.reduceEq, if_true, if_false]; exact k2)⟩
  · refine .inr ?_
    unfold utC at h0 ⊢
    rw [if_pos hpc] at h0 ⊢
    split at h0
    · exact absurd rfl h0
    · rename_i hs
      rw [if_neg hs]
theorem period_law {p d q : Int} (h : surdB p d q = true) : ∃ (kk : Int) (xs : List Int) (code : Int), Hid (∀ W, Calls Tryz.prog 24 #[surdV p d q] W (RetCertC W kk xs code)) ∧ ((code = 0 ∧ kk = 5 ∧ ccB 5 xs = true) ∨ code = 5) := by
  refine ⟨_, _, _, Lib.hid fun W => iProvePeriod_any p d q W, ?_⟩
  by_cases h0 : pdC (p, d, q) = 0
  · obtain ⟨k1, k2, k3⟩ := pe_acc h0
    exact .inl ⟨h0, k1, cc_of (by decide) (by decide) k3 (by simp only [ccK, Int.reduceEq, if_true, if_false]; exact k2)⟩
  · refine .inr ?_
    have hs : sdOk (p, d, q) = true := h
    unfold pdC at h0 ⊢
    rw [if_pos hs] at h0 ⊢
    split at h0
    · exact absurd rfl h0
    · rename_i hs
      rw [if_neg hs]
theorem best_law (n d p q : Int) : ∃ (b : Bool) (k kk : Int) (xs : List Int) (code : Int), Hid (∀ W, Calls Tryz.prog 14 #[fracV n d, fracV p q] W fun e w' => e = .returned (.tuple #[.bool b, .int .i64 k]) ∧ Below W.heap.size W w') ∧ Hid (∀ W, Calls Tryz.prog 25 #[fracV n d, fracV p q] W (RetCertC W kk xs code)) ∧ ((b = true ∧ code = 0 ∧ kk = 6 ∧ ccB 6 xs = true) ∨ (b = false ∧ code ≠ 0)) := by
  obtain ⟨b, k, kk, xs, code, h1, h2, h3, h4, _⟩ := best_acc n d p q
  refine ⟨b, k, kk, xs, code, h1, h2, ?_⟩
  cases b
  · exact .inr ⟨rfl, of_decide_eq_false h3.symm⟩
  · obtain ⟨e1, e2, e3⟩ := h4 rfl
    exact .inl ⟨rfl, of_decide_eq_true h3.symm, e1, cc_of (by decide) (by decide) e3 (by simp only [ccK, Int.reduceEq, if_false]; exact e2)⟩
end Go.Proofs.YtpgkellmhlmjeaaGreatDoor
namespace Go.Proofs.YtpgkellmhlmjeaaGreatDoor
open Go.RowKit Go.Sort
theorem B2.keep {g h : Nat} {x y : Int} {W W' : World} (hb : B2 h x y W) (k : Keep g W W') (hg : h ≠ g) : B2 h x y W' :=
  ⟨(k.cell hg hb.2.2.2).trans hb.1, (k.cell hg hb.2.2.2).trans hb.2.1, fun j => (k.frozen hg hb.2.2.2).trans (hb.2.2.1 j), Nat.lt_of_lt_of_le hb.2.2.2 k.2.1⟩
/-- The state of a draw: the source in g, the result in w's first new block. -/
def S0 (g B N : Nat) (w W : World) : Prop := Src g B N W ∧ Keep g w W ∧ B2 w.heap.size 0 0 W ∧ g < w.heap.size
section
variable {g B N : Nat} {w : World} {h : Nat} {a b : Int} {W : World}
theorem Src.lt {g B N : Nat} {W : World} (h : Src g B N W) : g < W.heap.size := by
  obtain ⟨A, n, c, bs, k, sd, h0, h1, h2, h3, h4, h5, h6, h7, h8, h9, h10, h11⟩ := h; exact h10
theorem S0.start (hs : Src g B N w) (T : TypeId) : S0 g B N w (w.alloc (.cells #[.int .i64 0, .int .i64 0] T)) :=
  ⟨hs.next (ext1 _ _), Keep.of (ext1 _ _) hs.lt, B2.new _ _ _ _, hs.lt⟩
theorem S0.keep {M : Nat} {W' : World} (t : S0 g B N w W) (hs : Src g B M W') (k : Keep g W W') : S0 g B M w W' := by
  obtain ⟨t1, t2, t3, t4⟩ := t
  exact ⟨hs, t2.trans k, t3.keep k (by omega), t4⟩
theorem S0.next {W' : World} (t : S0 g B N w W) (hb : Below W.heap.size W W') : S0 g B N w W' := t.keep (t.1.next hb) (Keep.of hb (Nat.lt_of_lt_of_le t.2.2.2 t.2.1.2.1))
end
end Go.Proofs.YtpgkellmhlmjeaaGreatDoor
namespace Go.Proofs.YtpgkellmhlmjeaaGreatDoor
open Go.RowKit Go.Sort
theorem BoxV.keepK {g s : Nat} {vs : List Value} {W W' : World} (h : BoxV g vs W) (k : Keep s W W') (hg : g ≠ s) : BoxV g vs W' :=
  ⟨fun j v hv => (k.cell hg h.lt).trans (h.c j v hv), fun j => (k.frozen hg h.lt).trans (h.f j), Nat.lt_of_lt_of_le h.lt k.2.1⟩
section
variable {N M : Nat} {w W W' : World}
end
@[reducible] def S3 (h1 : Nat) (l c s : Int) (W : World) : Prop := W.cell? ⟨h1, 0, none⟩ = some (.int .i64 l) ∧ W.cell? ⟨h1, 1, none⟩ = some (.int .i64 c) ∧ W.cell? ⟨h1, 2, none⟩ = some (.int .i64 s)
end Go.Proofs.YtpgkellmhlmjeaaGreatDoor
