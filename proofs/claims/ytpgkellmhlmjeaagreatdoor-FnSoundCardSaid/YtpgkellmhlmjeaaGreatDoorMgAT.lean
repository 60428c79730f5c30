/- Parts of the proof, merged: SndP ProveBW SndB A2gW. No condition but those that each theorem names. -/
import Derived.Test.YtpgkellmhlmjeaaGreatDoorMgAH
import Derived.Test.YtpgkellmhlmjeaaGreatDoorMgAJ
import Derived.Test.YtpgkellmhlmjeaaGreatDoorMgAG
import Derived.Test.YtpgkellmhlmjeaaGreatDoorMgAO
import Derived.Test.YtpgkellmhlmjeaaGreatDoorMgAQ
import Derived.Test.YtpgkellmhlmjeaaGreatDoorMgAD
namespace Go.Proofs.YtpgkellmhlmjeaaGreatDoor
open Go.RowKit Go.Sort
def bigN1 : Nat := 1000000000000000001
/-- Of n numbers from d on none divides it but two. -/
def chkD : Nat → Nat → Bool := fun n => Nat.rec (fun _ => true) (fun _ ih d => ((Nat.ble 1 (bigN1 % d)) || (Nat.beq d 101 || Nat.beq d 9901)) && ih (Nat.succ d)) n
theorem chkD_ok : chkD 9999 2 = true := by kernel_rfl
theorem chkD_all : ∀ n d, chkD n d = true → ∀ e, d ≤ e → e < d + n → (bigN1 % e ≠ 0 ∨ e = 101 ∨ e = 9901)
  | 0, d, _, e, h1, h2 => by omega
  | n + 1, d, h, e, h1, h2 => by
    have h' : (((Nat.ble 1 (bigN1 % d)) || (Nat.beq d 101 || Nat.beq d 9901)) && chkD n (d + 1)) = true := h
    rw [Bool.and_eq_true] at h'
    by_cases hde : d = e
    · subst hde
      have h0 := h'.1
      simp only [Bool.or_eq_true, Nat.ble_eq, Nat.beq_eq] at h0
      omega
    · exact chkD_all n (d + 1) h'.2 e (by omega) (by omega)
theorem no_big {d y : Nat} (h1 : 2 ≤ d) (h2 : d ≤ 10000) (h : d * (y * y) = bigN1) : False := by
  have hd : bigN1 % d = 0 := by rw [← h]; exact Nat.mul_mod_right _ _
  have := chkD_all 9999 2 chkD_ok d h1 (by omega)
  rcases this with h0 | rfl | rfl
  · exact h0 hd
  · unfold bigN1 at h
    rcases Nat.lt_or_ge 99503719 y with g | g
    · have := Nat.mul_le_mul (show 99503720 ≤ y from g) (show 99503720 ≤ y from g)
      omega
    · have := Nat.mul_le_mul g g
      omega
  · unfold bigN1 at h
    rcases Nat.lt_or_ge 10049870 y with g | g
    · have := Nat.mul_le_mul (show 10049871 ≤ y from g) (show 10049871 ≤ y from g)
      omega
    · have := Nat.mul_le_mul g g
      omega
/-- A greatest common divisor that is told with its multipliers. -/
theorem gc_true {xs : List Int} (h : gcB xs = true) : ∃ a b g x y : Int, xs = [a, b, g, x, y] ∧ (Int.gcd a b : Int) = g := by
  unfold gcB at h
  split at h
  · rename_i a b g x y
    rw [Bool.and_eq_true, Bool.and_eq_true, Bool.and_eq_true, decide_eq_true_iff, beq_iff_eq, beq_iff_eq, beq_iff_eq] at h
    obtain ⟨h1, h2, h3, h4⟩ := h
    have d1 : g ∣ a := Int.dvd_of_tmod_eq_zero h2
    have d2 : g ∣ b := Int.dvd_of_tmod_eq_zero h3
    have e1 : g ∣ (Int.gcd a b : Int) := Int.dvd_coe_gcd d1 d2
    have e2 : (Int.gcd a b : Int) ∣ g := by
      rw [← h4]
      exact Int.dvd_add (Int.dvd_trans (Int.gcd_dvd_left ..) (Int.dvd_mul_right _ _)) (Int.dvd_trans (Int.gcd_dvd_right ..) (Int.dvd_mul_right _ _))
    exact ⟨a, b, g, x, y, rfl, Int.dvd_antisymm (by omega) (by omega) e2 e1⟩
  · cases h
/-- A number between two squares that follow one another is none. -/
theorem ro_true {xs : List Int} (h : roB xs = true) : ∃ n r : Int, xs = [n, r] ∧ 1 ≤ n ∧ sqB n = false := by
  unfold roB at h
  split at h
  · rename_i n r
    rw [Bool.and_eq_true, Bool.and_eq_true, decide_eq_true_iff, decide_eq_true_iff, decide_eq_true_iff] at h
    obtain ⟨h1, h2, h3⟩ := h
    have hr : 0 ≤ r * r := Int.mul_nonneg h1 h1
    refine ⟨n, r, rfl, by omega, ?_⟩
    unfold sqB
    rw [decide_eq_false_iff_not]
    intro e
    have h0 : 0 ≤ rtI n := by unfold rtI; omega
    generalize rtI n = t at *
    rcases Int.lt_trichotomy t r with g | g | g
    · have := Int.mul_le_mul (show t ≤ r by omega) (show t ≤ r by omega) h0 h1
      omega
    · subst g; omega
    · have := Int.mul_le_mul (show r + 1 ≤ t by omega) (show r + 1 ≤ t by omega) (by omega) h0
      omega
  · cases h
/-- What divides two numbers and not a third one. -/
theorem li_true {xs : List Int} (h : liB xs = true) : ∃ a b c g : Int, xs = [a, b, c, g] ∧ (Int.gcd a b = 0 → c ≠ 0) ∧ (0 < Int.gcd a b → c.tmod (Int.gcd a b : Int) ≠ 0) := by
  unfold liB at h
  split at h
  · rename_i a b c g
    rw [Bool.and_eq_true, Bool.and_eq_true, Bool.and_eq_true, decide_eq_true_iff, beq_iff_eq, beq_iff_eq, bne_iff_ne] at h
    obtain ⟨h1, h2, h3, h4⟩ := h
    have d1 : g ∣ a := Int.dvd_of_tmod_eq_zero h2
    have d2 : g ∣ b := Int.dvd_of_tmod_eq_zero h3
    have e1 : g ∣ (Int.gcd a b : Int) := Int.dvd_coe_gcd d1 d2
    refine ⟨a, b, c, g, rfl, fun _ e => h4 (by rw [e]; exact Int.zero_tmod g), fun _ e => h4 ?_⟩
    exact Int.tmod_eq_zero_of_dvd (Int.dvd_trans e1 (Int.dvd_of_tmod_eq_zero e))
  · cases h
/-- The surds along terms, one by one. -/
theorem alg_at : ∀ (ts : List Int) (s : Sd) (M : List Sd), alg ts s = some M → ∀ j, j < ts.length → ts.getD j 0 = flS ((s :: M).getD j (0, 0, 0)) ∧ (s :: M).getD (j + 1) (0, 0, 0) = nxS ((s :: M).getD j (0, 0, 0))
  | [], _, _, _, j, hj => by simp at hj
  | t :: ts, s, M, h, j, hj => by
    unfold alg at h
    split at h
    · rename_i hh
      rw [Bool.and_eq_true, decide_eq_true_iff] at hh
      cases hr : alg ts (nxS s) with
      | none => rw [hr] at h; cases h
      | some M' =>
        rw [hr] at h
        simp only [Option.map_some, Option.some.injEq] at h
        subst h
        cases j with
        | zero => exact ⟨hh.1.symm, rfl⟩
        | succ j => exact alg_at ts (nxS s) M' hr j (by simp at hj; omega)
    · cases h
theorem along_at {s : Sd} {ts : List Int} {L : List Sd} (h : along s ts = some L) : sdOk s = true ∧ L.length = ts.length + 1 ∧ L.getD 0 (0, 0, 0) = s ∧ ∀ j, j < ts.length → ts.getD j 0 = flS (L.getD j (0, 0, 0)) ∧ L.getD (j + 1) (0, 0, 0) = nxS (L.getD j (0, 0, 0)) := by
  have hl := along_len h
  unfold along at h
  split at h
  · rename_i hs
    cases hr : alg ts s with
    | none => rw [hr] at h; cases h
    | some M =>
      rw [hr] at h
      simp only [Option.map_some, Option.some.injEq] at h
      subst h
      exact ⟨hs, hl, rfl, alg_at ts s M hr⟩
  · cases h
theorem getD_getE {α : Type} {L : List α} {j : Nat} {z : α} (h : j < L.length) : L[j]? = some (L.getD j z) := by
  rw [List.getD_eq_getElem?_getD, List.getElem?_eq_getElem h]; rfl
theorem along_terms {s : Sd} {ts : List Int} {L : List Sd} (h : along s ts = some L) : ts = (L.take ts.length).map flS := by
  obtain ⟨_, hl, _, ha⟩ := along_at h
  apply List.ext_getElem?
  intro j
  by_cases hj : j < ts.length
  · rw [List.getElem?_map, List.getElem?_take, if_pos hj, getD_getE (z := (0, 0, 0)) (by omega), getD_getE (z := (0 : Int)) hj, (ha j hj).1]; rfl
  · rw [List.getElem?_eq_none (by omega), List.getElem?_eq_none (by simp; omega)]
/-- The walk to the first surd that comes again. -/
theorem per_along {s : Sd} {ts : List Int} {L : List Sd} {h : Nat} (ha : along s ts = some L) (hn : (L.take ts.length).Nodup) (hh : h < ts.length) (he : L.getD ts.length (0, 0, 0) = L.getD h (0, 0, 0)) (hm : ts.length ≤ 400) : perOf s = some (L.take ts.length, h) := by
  obtain ⟨hs, hl, h0, hat⟩ := along_at ha
  have hok := along_ok ha
  have key : ∀ i j, i + j = ts.length → per (400 - j) (L.take j) (L.getD j (0, 0, 0)) = some (L.take ts.length, h) := by
    intro i
    induction i with
    | zero =>
      intro j hj
      obtain rfl : j = ts.length := by omega
      have hget : (L.take ts.length)[h]? = some (L.getD h (0, 0, 0)) := by rw [List.getElem?_take, if_pos hh]; exact getD_getE (by omega)
      have hmem : L.getD ts.length (0, 0, 0) ∈ L.take ts.length := by rw [he]; exact List.mem_of_getElem? hget
      have hidx : (L.take ts.length).idxOf (L.getD ts.length (0, 0, 0)) = h := by
        rw [he]
        obtain ⟨k1, k2⟩ := List.getElem?_eq_some_iff.1 hget
        rw [← k2]
        exact hn.idxOf_getElem h k1
      unfold per
      cases 400 - ts.length with
      | zero => simp only [hmem, if_true, hidx]
      | succ k => simp only [hmem, if_true, hidx]
    | succ i ih =>
      intro j hj
      have hjl : j < ts.length := by omega
      have hget : (L.take ts.length)[j]? = some (L.getD j (0, 0, 0)) := by rw [List.getElem?_take, if_pos hjl]; exact getD_getE (by omega)
      have hnm : L.getD j (0, 0, 0) ∉ L.take j := by
        intro hmem
        obtain ⟨k, hk⟩ := List.getElem?_of_mem hmem
        rw [List.getElem?_take] at hk
        split at hk
        · rename_i hkj
          have hk2 : (L.take ts.length)[k]? = some (L.getD j (0, 0, 0)) := by rw [List.getElem?_take, if_pos (by omega)]; exact hk
          obtain ⟨p1, p2⟩ := List.getElem?_eq_some_iff.1 hk2
          obtain ⟨q1, q2⟩ := List.getElem?_eq_some_iff.1 hget
          have e1 := hn.idxOf_getElem k p1
          have e2 := hn.idxOf_getElem j q1
          rw [p2] at e1
          rw [q2] at e2
          omega
        · cases hk
      obtain ⟨k, hk⟩ : ∃ k, 400 - j = k + 1 := ⟨399 - j, by omega⟩
      have hnx := (hat j hjl).2
      have hokn : sdOk (nxS (L.getD j (0, 0, 0))) = true := by
        rw [← hnx]
        exact hok _ (List.mem_of_getElem? (getD_getE (by omega)))
      have ht : L.take (j + 1) = L.take j ++ [L.getD j (0, 0, 0)] := by
        rw [List.take_add_one, getD_getE (z := (0, 0, 0)) (by omega)]; rfl
      have := ih (j + 1) (by omega)
      rw [ht, hnx, show 400 - (j + 1) = k by omega] at this
      rw [hk, per, if_neg hnm, if_pos hokn]
      exact this
  have := key ts.length 0 (by omega)
  rw [h0] at this
  exact this
/-- An accepted certificate of a period tells the head and the period. -/
theorem pe_true {xs : List Int} (h : peB xs = true) (hm : xs.length ≤ 405) : ∃ (L : List Sd) (i : Nat), 6 ≤ xs.length ∧ pdR (xs.getD 0 0, xs.getD 1 0, xs.getD 2 0) = some (L, i) ∧ (i : Int) = xs.getD 3 0 ∧ ((L.length - i : Nat) : Int) = xs.getD 4 0 ∧ L.map flS = xs.drop 5 := by
  unfold peB at h
  rw [Bool.and_eq_true, Bool.and_eq_true, Bool.and_eq_true, Bool.and_eq_true, decide_eq_true_iff, decide_eq_true_iff, decide_eq_true_iff, decide_eq_true_iff] at h
  obtain ⟨h1, h2, h3, h4, h5⟩ := h
  split at h5
  · cases h5
  · rename_i L hL
    rw [Bool.and_eq_true, decide_eq_true_iff, beq_iff_eq] at h5
    obtain ⟨h6, h7⟩ := h5
    obtain ⟨hs, hl, h0, hat⟩ := along_at hL
    have hd : (xs.drop 5).length = xs.length - 5 := by simp
    rw [show L.length - 1 = (xs.drop 5).length by omega] at h6 h7
    have hp := per_along (h := (xs.getD 3 0).toNat) hL h6 (by omega) h7 (by omega)
    refine ⟨_, (xs.getD 3 0).toNat, h1, ?_, ?_, ?_, (along_terms hL).symm⟩
    · unfold pdR
      rw [hs, if_pos rfl]
      exact hp
    · omega
    · rw [List.length_take]
      omega
theorem allK_at {p : Nat → Bool} {n k : Nat} (h : allK p n = true) (hk : k < n) : p k = true := by
  cases e : p k
  · rw [allK_false e n hk] at h; cases h
  · rfl
theorem mtx_unS : ∀ (ts : List Int) (p q x y : Int), mtx ts p q x y = unS ts p q x y
  | [], _, _, _, _ => rfl
  | t :: ts, p, q, x, y => by
    unfold mtx unS
    rw [mtx_unS ts]
/-- The norms along the surds of a root. -/
structure NI (d sg : Int) (s : Sd) (x y x0 y0 : Int) : Prop where
  sg1 : sg = 1 ∨ sg = -1
  a : x * x - d * (y * y) = sg * s.2.2
  b : x * x0 - d * (y * y0) = -(sg * s.1)
  c : (x0 * x0 - d * (y0 * y0)) * s.2.2 = -(sg * (d - s.1 * s.1))
theorem NI.next {d sg : Int} {s : Sd} {x y x0 y0 t : Int} (h : NI d sg s x y x0 y0) (hq : s.2.2 ≠ 0) (ht : flS s = t) (hd : s.2.1 = d) (hn : nqS s * s.2.2 = d - npS s * npS s) : NI d (-sg) (nxS s) (t * x + x0) (t * y + y0) x y := by
  obtain ⟨h0, h1, h2, h3⟩ := h
  have hp : npS s = t * s.2.2 - s.1 := by unfold npS; rw [ht]
  show NI d (-sg) (npS s, s.2.1, nqS s) _ _ _ _
  generalize npS s = P2 at *
  generalize nqS s = Q2 at *
  obtain ⟨P, D, Q⟩ := s
  dsimp only at h1 h2 h3 hq hd hn hp
  refine ⟨by omega, ?_, ?_, ?_⟩
  · show _ = -sg * Q2
    refine Int.eq_of_mul_eq_mul_right hq ?_
    grind
  · show _ = -(-sg * P2)
    grind
  · show _ * Q2 = -(-sg * (d - P2 * P2))
    grind
theorem unS_norm {d : Int} (hd : NoSq d) : ∀ (ts : List Int) (s : Sd) (M : List Sd) (x y x0 y0 sg u v : Int), (s = (0, d, 1) ∨ Red d s) → alg ts s = some M → NI d sg s x y x0 y0 → unS ts x y x0 y0 = some (u, v) → ∃ sg', (sg' = 1 ∨ sg' = -1) ∧ u * u - d * (v * v) = sg' * ((s :: M).getLastD (0, 0, 0)).2.2
  | [], s, M, x, y, x0, y0, sg, u, v, _, ha, hN, hu => by
    simp only [unS, Option.some.injEq, Prod.mk.injEq] at hu
    obtain ⟨rfl, rfl⟩ := hu
    simp only [alg, Option.some.injEq] at ha
    subst ha
    exact ⟨sg, hN.sg1, hN.a⟩
  | t :: ts, s, M, x, y, x0, y0, sg, u, v, hs, ha, hN, hu => by
    unfold alg at ha
    split at ha
    · rename_i hh
      rw [Bool.and_eq_true, decide_eq_true_iff] at hh
      cases hr : alg ts (nxS s) with
      | none => rw [hr] at ha; cases ha
      | some M' =>
        rw [hr] at ha
        simp only [Option.map_some, Option.some.injEq] at ha
        subst ha
        unfold unS at hu
        split at hu
        · have hfacts : s.2.2 ≠ 0 ∧ s.2.1 = d ∧ nqS s * s.2.2 = d - npS s * npS s ∧ Red d (nxS s) := by
            rcases hs with rfl | hs
            · obtain ⟨n1, n2, _⟩ := next_root hd
              have n2' := n2
              unfold nxS fsS at n2
              simp only [Prod.mk.injEq] at n2
              obtain ⟨n3, _, n4⟩ := n2
              refine ⟨by show (1 : Int) ≠ 0; decide, rfl, ?_, by rw [n2']; exact red_first hd⟩
              rw [n3, n4]
              dsimp only
              omega
            · obtain ⟨r1, r2⟩ := red_next hd hs
              refine ⟨?_, hs.1, r2, r1⟩
              have := hs.2.2.2.1
              omega
          obtain ⟨f1, f2, f3, f4⟩ := hfacts
          have := unS_norm hd ts (nxS s) M' _ _ x y (-sg) u v (.inr f4) hr (hN.next f1 hh.1 f2 f3) hu
          simpa using this
        · cases hu
    · cases ha
/-- A pair that the walk along a root ends with is plain. -/
theorem plain_end {d u v : Int} (h1 : 2 ≤ d) (h2 : d ≤ 10000) (hsm : smB u v = true) (hn : u * u - d * (v * v) = 1 ∨ u * u - d * (v * v) = -1) : plB d u v = true := by
  obtain ⟨s1, s2⟩ := smB_true.1 hsm
  refine plB_true.2 ⟨by omega, by omega, Int.le_ediv_of_mul_le (by omega) ?_⟩
  have hu : u * u ≤ 1000000000 * 1000000000 := by
    have := mul_bd (x := u) (y := u) (M := 1000000000) (N := 1000000000) (by omega) (by omega) (by omega) (by omega) (by omega) (by omega)
    omega
  have hc : v * v * d = d * (v * v) := Int.mul_comm _ _
  rw [hc]
  rcases Int.lt_or_le 1000000000000000000 (d * (v * v)) with g | g
  · exfalso
    have e : d * (v * v) = 1000000000000000001 := by omega
    obtain ⟨D, rfl⟩ : ∃ D : Nat, d = (D : Int) := ⟨d.toNat, by omega⟩
    refine no_big (d := D) (y := v.natAbs) (by omega) (by omega) ?_
    have e2 : ((v.natAbs * v.natAbs : Nat) : Int) = v * v := Int.natAbs_mul_self
    have e3 : ((D * (v.natAbs * v.natAbs) : Nat) : Int) = ((bigN1 : Nat) : Int) := by
      rw [Int.natCast_mul, e2, e]; rfl
    exact Int.ofNat_inj.1 e3
  · exact g
/-- The state whose Q is 1. -/
theorem red_one {d : Int} (hd : NoSq d) {s : Sd} (h : Red d s) (hq : s.2.2 = 1) : s = (rtI d, d, 1) ∧ nxS s = fsS d := by
  obtain ⟨p, D, q⟩ := s
  obtain ⟨k1, k2, k3, k4, k5, k6, k7⟩ := id h
  dsimp only at *
  obtain rfl : p = rtI d := by omega
  subst k1 hq
  refine ⟨rfl, ?_⟩
  have e1 : flS (rtI D, D, 1) = rtI D + rtI D := by
    unfold flS
    dsimp only
    rw [if_pos (by decide), Int.ediv_one]
  have e2 : npS (rtI D, D, 1) = rtI D := by unfold npS; rw [e1]; dsimp only; omega
  unfold nxS fsS
  rw [e2]
  unfold nqS
  rw [e2]
  dsimp only
  rw [Int.tdiv_one]
theorem red_root {d : Int} (hd : NoSq d) : Red d (rtI d, d, 1) := by
  obtain ⟨r1, r2, r3, r4⟩ := hd.rt
  exact ⟨rfl, r1, Int.le_refl _, Int.le_refl _, by dsimp only; omega, by dsimp only; omega, Int.one_dvd _⟩
theorem mtx_small : ∀ (ts : List Int) (p q x y u v : Int), smB p q = true → mtx ts p q x y = some (u, v) → smB u v = true
  | [], p, q, x, y, u, v, h, e => by
    simp only [mtx, Option.some.injEq, Prod.mk.injEq] at e
    obtain ⟨rfl, rfl⟩ := e
    exact h
  | t :: ts, p, q, x, y, u, v, h, e => by
    unfold mtx at e
    split at e
    · rename_i hs
      exact mtx_small ts _ _ _ _ u v hs e
    · cases e
/-- An accepted certificate of a unit tells the least solution. -/
theorem un_true {xs : List Int} (h : unB xs = true) : ∃ d x y : Int, d = xs.getD 0 0 ∧ x = xs.getD 1 0 ∧ y = xs.getD 2 0 ∧ 4 ≤ xs.length ∧ pcC d = 0 ∧ unR d = some (x, y) := by
  unfold unB at h
  rw [Bool.and_eq_true, Bool.and_eq_true, decide_eq_true_iff] at h
  obtain ⟨h1, h2, h3⟩ := h
  split at h3
  · cases h3
  · rename_i L hL
    rw [Bool.and_eq_true, Bool.and_eq_true, beq_iff_eq] at h3
    obtain ⟨h4, h5, h6⟩ := h3
    obtain ⟨d, hd0⟩ : ∃ d, xs.getD 0 0 = d := ⟨_, rfl⟩
    obtain ⟨ts, hts⟩ : ∃ ts, xs.drop 3 = ts := ⟨_, rfl⟩
    rw [hd0] at h2 hL
    rw [hts] at hL h6
    have hd := noSq_of h2 hL
    obtain ⟨b1, b2⟩ := inR_true.1 h2
    obtain ⟨hs, hl, h0, hat⟩ := along_at hL
    have hm1 : 1 ≤ ts.length := by rw [← hts]; simp; omega
    obtain ⟨n1, n2, n3, n4, n5⟩ := pdN_spec b1 b2 hd.2.2
    have hit : ∀ j, j < ts.length → L.getD (j + 1) (0, 0, 0) = itS (fsS d) j := by
      intro j
      induction j with
      | zero =>
        intro hj
        rw [(hat 0 hj).2, h0, (next_root hd).2.1]
        rfl
      | succ j ih =>
        intro hj
        rw [(hat (j + 1) hj).2, ih (by omega)]
        rfl
    have hred := red_first hd
    -- the last one has Q = 1
    obtain ⟨m, hm⟩ : ∃ m, ts.length = m + 1 := ⟨ts.length - 1, by omega⟩
    have hlast : (itS (fsS d) m).2.2 = 1 := by
      unfold lastQ qS at h5
      rw [beq_iff_eq, hl, show ts.length + 1 - 1 = m + 1 by omega, hit m (by omega)] at h5
      exact h5
    have hcyc : itS (fsS d) (m + 1) = fsS d := (red_one hd (red_it hd hred m) hlast).2
    have hge : pdN d ≤ m + 1 := by
      rcases Nat.lt_or_ge (m + 1) (pdN d) with g | g
      · exact absurd hcyc (n4 (m + 1) (by omega) g)
      · exact g
    obtain ⟨k, hk⟩ : ∃ k, pdN d = k + 1 := ⟨pdN d - 1, by omega⟩
    have hone : itS (fsS d) k = (rtI d, d, 1) := by
      rw [hk] at n3
      exact red_inj hd (red_it hd hred k) (red_root hd) (n3.trans (red_one hd (red_root hd) rfl).2.symm)
    have hle : m + 1 ≤ pdN d := by
      rcases Nat.lt_or_ge (pdN d) (m + 1) with g | g
      · exfalso
        unfold midQ at h4
        have := allK_at (k := k) h4 (by omega)
        unfold midP qS at this
        rw [hit k (by omega), hone] at this
        simp at this
      · exact g
    have hpn : pdN d = m + 1 := by omega
    have hterms : ts = rtI d :: asL d (pdN d - 1) := by
      rw [hpn, show m + 1 - 1 = m by omega]
      apply List.ext_getElem?
      intro j
      by_cases hj : j < ts.length
      · rw [getD_getE (z := (0 : Int)) hj, (hat j hj).1]
        cases j with
        | zero => rw [h0, (next_root hd).1]; rfl
        | succ j =>
          rw [hit j (by omega), List.getElem?_cons_succ]
          unfold asL
          rw [List.getElem?_map, List.getElem?_range (by omega)]
          rfl
      · rw [List.getElem?_eq_none (by omega), List.getElem?_eq_none (by simp [asL_length]; omega)]
    have hun : unS ts 1 0 0 1 = some (xs.getD 1 0, xs.getD 2 0) := by
      rw [← mtx_unS]
      exact h6
    have hsm := mtx_small ts 1 0 0 1 _ _ (by decide) h6
    have hnorm : ∃ sg', (sg' = 1 ∨ sg' = -1) ∧ xs.getD 1 0 * xs.getD 1 0 - d * (xs.getD 2 0 * xs.getD 2 0) = sg' * (1 : Int) := by
      have ha : ∃ M, alg ts (0, d, 1) = some M ∧ L = (0, d, 1) :: M := by
        unfold along at hL
        rw [if_pos hs] at hL
        cases hr : alg ts (0, d, 1) with
        | none => rw [hr] at hL; cases hL
        | some M =>
          rw [hr] at hL
          simp only [Option.map_some, Option.some.injEq] at hL
          exact ⟨M, rfl, hL.symm⟩
      obtain ⟨M, hM, hLM⟩ := ha
      have hN : NI d 1 (0, d, 1) 1 0 0 1 := ⟨.inl rfl, by simp, by simp, by simp⟩
      obtain ⟨sg, hsg, e⟩ := unS_norm hd ts (0, d, 1) M 1 0 0 1 1 _ _ (.inl rfl) hM hN hun
      refine ⟨sg, hsg, ?_⟩
      rw [e, ← hLM]
      have : L.getLastD (0, 0, 0) = L.getD (m + 1) (0, 0, 0) := by
        rw [List.getLastD_eq_getLast?, List.getLast?_eq_getElem?, show L.length - 1 = m + 1 by omega, List.getD_eq_getElem?_getD]
      rw [this, hit m (by omega), hlast]
    obtain ⟨sg, hsg, e⟩ := hnorm
    have hpl := plain_end b1 b2 hsm (by rcases hsg with rfl | rfl <;> omega)
    refine ⟨d, _, _, hd0.symm, rfl, rfl, h1, ?_, ?_⟩
    · unfold pcC
      rw [h2, if_pos rfl, hd.2.2]
      rfl
    · rw [unR_S b1 b2 hd.2.2, ← hterms, hun]
      simp only [Option.filter_some, hpl, if_true]
end Go.Proofs.YtpgkellmhlmjeaaGreatDoor
namespace Go.Proofs.YtpgkellmhlmjeaaGreatDoor
open Go.RowKit Go.Sort
set_option maxHeartbeats 1000000 in
theorem sIsBestFirst_is_good (n d p q : Int) (b : Bool) (w : World) (hk : bestC true [(n, d), (p, q)] = 0) (HB : Hid (∀ W, Calls Tryz.prog 45 #[fracV n d, fracV p q] W fun e w' => e = .returned (.bool b) ∧ Below W.heap.size W w')) :
    Calls Tryz.prog 14 #[fracV n d, fracV p q] w fun e w' => e = .returned (.tuple #[.bool b, .int .i64 0]) ∧ Below w.heap.size w w' := by
  have HK : Hid (∀ (W : World) (g c : Nat), g = W.heap.size → Calls Tryz.prog 44 #[.slice (some ⟨g, 0, none⟩) 2 c] (W.alloc (.cells #[.int .i64 n, .int .i64 d, .int .i64 p, .int .i64 q] 41)) fun e w' => e = .returned (.int .i64 0) ∧ Below (W.alloc (.cells #[.int .i64 n, .int .i64 d, .int .i64 p, .int .i64 q] 41)).heap.size (W.alloc (.cells #[.int .i64 n, .int .i64 d, .int .i64 p, .int .i64 q] 41)) w') := fun W g c hg => by
    have := l18Code_any (some ⟨g, 0, none⟩) c [(n, d), (p, q)] (W.alloc (.cells #[.int .i64 n, .int .i64 d, .int .i64 p, .int .i64 q] 41)) (Wr.lit' W hg rfl).rd (by simp)
    rw [hk] at this
    exact this
  clear hk
  unfold fracV at *
  have G1 := Lib.hid (((B2.new w n d 41).next (ext1 _ (.cells #[.int .i64 p, .int .i64 q] 41))).next (ext1 _ (.cells #[.int .i64 n, .int .i64 d, .int .i64 p, .int .i64 q] 41)))
  have G2 := Lib.hid ((B2.new_at (g := w.heap.size + 1) (W := w.alloc (.cells #[.int .i64 n, .int .i64 d] 41)) p q 41 (by simp)).next (ext1 _ (.cells #[.int .i64 n, .int .i64 d, .int .i64 p, .int .i64 q] 41)))
  go_enter Tryz.func14, Tryz.ntmps14
  go_wp2_with fail
  refine (HK.out _ _ _ (by simp)).mono ?_
  rintro e w1 ⟨rfl, hb⟩
  obtain ⟨r0, r1, _, _⟩ := G1.out.next hb
  obtain ⟨x0, x1, _, _⟩ := G2.out.next hb
  have hbe := Lib.hid (ext_trans (ext_alloc (ext_alloc (ext1 _ _) _) _) hb)
  clear hb
  go_wp2_with fail
  refine (HB.out _).mono ?_
  rintro e w2 ⟨rfl, hb⟩
  go_wp2
  go_ret2
  exact ⟨rfl, ext_trans hbe.out hb⟩
set_option maxHeartbeats 1000000 in
theorem sProveBest_yes (n d p q a b c e : Int) (w : World) (HI : Hid (∀ W, Calls Tryz.prog 14 #[fracV n d, fracV p q] W fun e w' => e = .returned (.tuple #[.bool true, .int .i64 0]) ∧ Below W.heap.size W w'))
    (HA : Hid (∀ W, Calls Tryz.prog 95 #[fracV n d, .int .i64 q] W fun x w' => x = .returned (.tuple #[fracV a b, fracV c e]) ∧ Below W.heap.size W w')) :
    Calls Tryz.prog 119 #[fracV n d, fracV p q] w (RetCertC w 6 [n, d, p, q, a, b, c, e] 0) := by
  unfold fracV at *
  have G1 := Lib.hid (((B2.new w n d 41).next (ext1 _ (.cells #[.int .i64 p, .int .i64 q] 41))).next (ext1 _ (.cells #[.int .i64 0, .slice none 0 0] 26)))
  have G2 := Lib.hid ((B2.new_at (g := w.heap.size + 1) (W := w.alloc (.cells #[.int .i64 n, .int .i64 d] 41)) p q 41 (by simp)).next (ext1 _ (.cells #[.int .i64 0, .slice none 0 0] 26)))
  go_enter Tryz.func119, Tryz.ntmps119
  go_wp2_with fail
  refine (HI.out _).mono ?_
  rintro x w1 ⟨rfl, hb1⟩
  have G1 := Lib.hid (G1.out.next hb1)
  have G2 := Lib.hid (G2.out.next hb1)
  have hz1 : w.heap.size + 1 + 1 < w1.heap.size := by have := hb1.size; simp at this; omega
  have m0 : w1.cell? ⟨w.heap.size + 1 + 1, 0, none⟩ = some (.int .i64 0) := (hb1.cell (p := ⟨w.heap.size + 1 + 1, 0, none⟩) (by simp)).trans (cell_three_3 w _ _ _ _ _ _ _)
  have m1 : w1.cell? ⟨w.heap.size + 1 + 1, 1, none⟩ = some (.slice none 0 0) := (hb1.cell (p := ⟨w.heap.size + 1 + 1, 1, none⟩) (by simp)).trans (cell_three_3 w _ _ _ _ _ _ _)
  have f0 : ∀ j, w1.frozen? ⟨w.heap.size + 1 + 1, j, none⟩ = false := fun j => (hb1.frozen (p := ⟨w.heap.size + 1 + 1, j, none⟩) (by simp)).trans (World.frozen?_alloc_at _ _ _ _ (by simp))
  have M := Lib.hid (And.intro m0 (And.intro m1 f0))
  have hbe := Lib.hid (ext_trans (ext_alloc (ext_alloc (ext1 _ _) _) _) hb1)
  clear f0 hb1 m0 m1
  obtain ⟨r0, r1, _, _⟩ := G1.out
  obtain ⟨x0, x1, _, _⟩ := G2.out
  go_wp2_with fail
  refine (HA.out _).mono ?_
  rintro x w2 ⟨rfl, hb⟩
  obtain ⟨m0, m1, mf⟩ := M.out
  have m0 := (hb.cell (p := ⟨w.heap.size + 1 + 1, 0, none⟩) hz1).trans m0
  have m1 := (hb.cell (p := ⟨w.heap.size + 1 + 1, 1, none⟩) hz1).trans m1
  have f00 := (hb.frozen (p := ⟨w.heap.size + 1 + 1, 0, none⟩) hz1).trans (mf 0)
  have f01 := (hb.frozen (p := ⟨w.heap.size + 1 + 1, 1, none⟩) hz1).trans (mf 1)
  have hz2 : w.heap.size + 1 + 1 < w2.heap.size := Nat.lt_of_lt_of_le hz1 hb.size
  have hz3 : w.heap.size + 1 < w2.heap.size := by omega
  have hz4 : w.heap.size < w2.heap.size := by omega
  clear r0 r1 x0 x1
  obtain ⟨r0, r1, _, _⟩ := G1.out.next hb
  obtain ⟨x0, x1, _, _⟩ := G2.out.next hb
  have hbe := Lib.hid (ext_trans hbe.out hb)
  clear hb mf hz1
  obtain ⟨s0, s1⟩ := set_two m0 m1
  have t0 : ∀ u v o o' o'', (((((w2.setCell ⟨w.heap.size + 1 + 1, 0, none⟩ u).setCell ⟨w.heap.size + 1 + 1, 1, none⟩ v).alloc o).alloc o').alloc o'').cell? ⟨w.heap.size + 1 + 1, 0, none⟩ = some u := fun u v o o' o'' =>
    (World.cell?_alloc_lt _ _ _ (by simp; omega)).trans ((World.cell?_alloc_lt _ _ _ (by simp; omega)).trans ((World.cell?_alloc_lt _ _ _ (by simpa using hz2)).trans ((World.cell?_setCell_other _ ⟨w.heap.size + 1 + 1, 1, none⟩ ⟨w.heap.size + 1 + 1, 0, none⟩ _ (by simp)).trans (s0 u))))
  have t1 : ∀ u v o o' o'', (((((w2.setCell ⟨w.heap.size + 1 + 1, 0, none⟩ u).setCell ⟨w.heap.size + 1 + 1, 1, none⟩ v).alloc o).alloc o').alloc o'').cell? ⟨w.heap.size + 1 + 1, 1, none⟩ = some v := fun u v o o' o'' =>
    (World.cell?_alloc_lt _ _ _ (by simp; omega)).trans ((World.cell?_alloc_lt _ _ _ (by simp; omega)).trans ((World.cell?_alloc_lt _ _ _ (by simpa using hz2)).trans (s1 u v)))
  clear s0 s1
  go_wp2
  refine bodyPost_ret (v := .tuple #[certV 6 (some ⟨w2.heap.size + 1 + 1, 0, none⟩) 8 8, .int .i64 0]) (by simp [results, Tryz.results119, go_sem, t0, t1]; done) rfl ⟨_, _, rfl, ?_, ⟨by simp, by unfold maxLen; omega⟩, ?_⟩
  · exact (Wr.lit' _ (xs := [n, d, p, q, a, b, c, e]) (by simp) rfl).more (by omega)
  · exact ext_alloc (ext_alloc (ext_alloc (ext_set (ext_set hbe.out (by simp; omega) _) (by simp; omega) _) _) _) _
end Go.Proofs.YtpgkellmhlmjeaaGreatDoor
namespace Go.Proofs.YtpgkellmhlmjeaaGreatDoor
open Go.RowKit Go.Sort
theorem ne_true {n d p q A B C E : Int} (h : neG n d p q A B C E = true) : bestC true [(n, d), (p, q)] = 0 ∧ ((d ≤ q ∧ frEq p q n d = true) ∨ (Fr n d q ∧ Sides n d q A B C E ∧ isB p q A B C E (cmp3 (errV n d A B * E) (errV n d C E * B)) = true)) := by
  unfold neG at h
  rw [Bool.and_eq_true, beq_iff_eq] at h
  obtain ⟨h0, h1⟩ := h
  obtain ⟨⟨o1, o2, o3, o4⟩, s1, s2, s3, s4⟩ := bestC_zero4 h0
  refine ⟨by unfold bestC; simp [o1, o2, s1, s2], ?_⟩
  by_cases hd : d ≤ q
  · rw [if_pos hd, Bool.and_eq_true] at h1
    exact .inl ⟨hd, h1.1⟩
  · rw [if_neg hd] at h1
    simp only [Bool.and_eq_true, decide_eq_true_eq] at h1
    obtain ⟨k1, k2, k3, k4, k5, k6, k7⟩ := h1
    unfold fracOk at o1 o2 o3 o4
    unfold smallFB at s1
    simp only [Bool.and_eq_true, inR_true, decide_eq_true_eq] at o1 o2 o3 o4 s1
    exact .inr ⟨⟨s1.1.1, s1.1.2, s1.2, o2.1.1.1, by omega, o1.2⟩, ⟨⟨k3, by omega, by omega, o3.1.1.1, k4, o4.1.1.1, k5⟩, k6⟩, k7⟩
/-- The question of an accepted certificate is answered with yes. -/
theorem best_true (n d p q A B C E : Int) (w : World) (h : neG n d p q A B C E = true) :
    Calls Tryz.prog 14 #[fracV n d, fracV p q] w fun e w' => e = .returned (.tuple #[.bool true, .int .i64 0]) ∧ Below w.heap.size w w' := by
  obtain ⟨h0, h1⟩ := ne_true h
  rcases h1 with ⟨h1, h2⟩ | ⟨h1, h2, h3⟩
  · refine sIsBestFirst_is_good n d p q true w h0 (Lib.hid fun W => ?_)
    have := l18First_near n d p q W h1
    rw [h2] at this
    exact this
  · refine sIsBestFirst_is_good n d p q true w h0 (Lib.hid fun W => ?_)
    have := l18First_far n d p q A B C E W h1 h2
    rw [h3] at this
    exact this
end Go.Proofs.YtpgkellmhlmjeaaGreatDoor
namespace Go.Proofs.YtpgkellmhlmjeaaGreatDoor
open Go.RowKit Go.Sort
set_option maxHeartbeats 1000000 in
theorem a2Gcd_any (a b : Int) (w : World) (a1 : -1000000000 ≤ a) (a2 : a ≤ 1000000000) (b1 : -1000000000 ≤ b) (b2 : b ≤ 1000000000) :
    Calls Tryz.prog 10 #[.int .i64 a, .int .i64 b] w fun e w' => e = .returned (.int .i64 (Int.gcd a b : Int)) ∧ w = w' := by
  obtain ⟨G, hG⟩ : ∃ G : Nat, Int.gcd a b = G := ⟨_, rfl⟩
  rw [hG]
  have HG : Hid (Nat.gcd a.natAbs b.natAbs = G) := hG
  clear hG
  have r1 : a.natAbs ≤ 1000000000 := by omega
  have s1 : b.natAbs ≤ 1000000000 := by omega
  go_enter Tryz.func10, Tryz.ntmps10
  go_wp2_with fail
  all_goals
    go_loopw [0, 1, 5] (fun r s _ wr => wr = w ∧ ∃ r' s' : Nat, r = .int .i64 r' ∧ s = .int .i64 s' ∧ r' ≤ 1000000000 ∧ s' ≤ 1000000000 ∧ Hid (Nat.gcd r' s' = G)) (fun _ s _ _ => (intOf s).toNat)
    case atStart => exact ⟨rfl, a.natAbs, b.natAbs, val_int (by omega), val_int (by omega), r1, s1, HG⟩
    case round =>
      obtain ⟨rfl, r, s, rfl, rfl, r2, s2, HG2⟩ := hrel
      clear HG
      by_cases h0 : s = 0
      · subst h0
        have e1 : (((0 : Nat) : Int) != 0) = false := by simp
        have hr : r = G := by have := HG2.out; simpa using this
        subst hr
        go_wp2
        go_ret
        exact ⟨rfl, rfl⟩
      · have e1 : ((s : Int) != 0) = true := by simp; omega
        have e2 : ((s : Int) == 0) = false := by simp; omega
        have hm : r % s < s := Nat.mod_lt _ (by omega)
        have hmi : (r : Int) % (s : Int) = ((r % s : Nat) : Int) := (Int.natCast_emod r s).symm
        have HN : Hid (Nat.gcd s (r % s) = G) := by
          have := HG2.out
          rw [Nat.gcd_comm, ← this, Nat.gcd_comm r s]
          exact (Nat.gcd_rec s r).symm
        go_wp2
        go_roundw
        case rel => exact ⟨by first | trivial | rfl, s, r % s, rfl, val_int hmi, s2, by omega, HN.out⟩
        case measure => simp only [intOf]; rw [hmi]; omega
end Go.Proofs.YtpgkellmhlmjeaaGreatDoor
