/- Notes as sources of terms: both walks. No condition but those that each theorem names. -/
import Derived.Test.YtgnifhegkjmgaaaShAtW
import Derived.Test.YtgnifhegkjmgaaaPdW
import Derived.Test.YtgnifhegkjmgaaaWalkC
import Derived.Test.YtgnifhegkjmgaaaNoteOkW
namespace Go.Proofs.Ytgnifhegkjmgaaa
open Go.RowKit Go.Sort Go.Maps Go.WideMaps

def WkC (B g : Nat) (L : List Sd) (i : Nat) (W : World) : Prop :=
  ∃ v A c, BoxV g [v, .slice A L.length c, .int .i64 i] W ∧ B ≤ g ∧ Wr (Value.int .i64) W B A (L.map flS) ∧ L.length ≤ c ∧ c ≤ maxLen
def RetCoC (w : World) (R : Option (List Sd × Nat)) (code : Int) (e : Ending) (w' : World) : Prop :=
  ∃ g, e = .returned (.tuple #[.pointer (some ⟨g, 0, none⟩), .int .i64 code]) ∧ Below w.heap.size w w' ∧ ∀ L i, R = some (L, i) → WkC w.heap.size g L i w'
set_option maxHeartbeats 1000000 in
theorem l08Code_cap (p d q : Int) (w : World) :
    Calls Try.prog 180 #[surdV p d q] w (RetCoC w (pdR (p, d, q)) (pdC (p, d, q))) := by
  have HV := Lib.hid (fun W : World => l07Ok_any p d q W)
  have HOK : Hid (sdOk (p, d, q) = surdB p d q) := rfl
  cases hs : surdB p d q
  · have e1 : pdR (p, d, q) = none := by rw [pdR, HOK.out, hs]; rfl
    have e2 : pdC (p, d, q) = 1 := by rw [pdC, HOK.out, hs]; rfl
    rw [e1, e2]
    clear e1 e2
    rw [hs] at HV
    clear hs HOK
    unfold surdV at *
    go_enter Try.func180, Try.ntmps180
    go_wp2_with fail
    refine (HV.out _).mono ?_
    rintro e w1 ⟨rfl, hb1⟩
    go_wp2
    go_ret2
    exact ⟨_, rfl, ext_alloc (ext_trans (ext1 _ _) hb1) _, fun L i h => by cases h⟩
  · have e1 : pdR (p, d, q) = perOf (p, d, q) := by rw [pdR, HOK.out, hs]; rfl
    have e2 : pdC (p, d, q) = if (perOf (p, d, q)).isSome = true then 0 else 5 := by rw [pdC, HOK.out, hs]; rfl
    have HP := Lib.hid (fun W : World => l08Walk_cap p d q W hs)
    rw [e1, e2]
    clear e1 e2
    rw [hs] at HV
    clear hs HOK
    generalize perOf (p, d, q) = R at *
    obtain ⟨cd, hcd⟩ : ∃ cd, (if R.isSome = true then (0 : Int) else 5) = cd := ⟨_, rfl⟩
    rw [hcd]
    have HCD : Hid (∀ b, R.isSome = b → cd = if b = true then 0 else 5) := fun b hb => by rw [← hcd, hb]
    clear hcd
    unfold surdV at *
    go_enter Try.func180, Try.ntmps180
    go_wp2_with fail
    refine (HV.out _).mono ?_
    rintro e w1 ⟨rfl, hb1⟩
    obtain ⟨hc1, hf1⟩ := bcell hb1
    have hz1 : w.heap.size < w1.heap.size := by have := hb1.size; simp at this; omega
    have HB1 := Lib.hid (ext_trans (ext1 w (.cells #[.int .i64 p, .int .i64 d, .int .i64 q] 71)) hb1)
    go_wp2_with fail
    refine (HP.out _).mono ?_
    rintro e w2 ⟨g, rfl, hb2, hw⟩
    have HW : Hid (∀ L i, R = some (L, i) → WkC w.heap.size g L i w2) := fun L i h => by
      obtain ⟨v, A, c, a1, a2, a3, a4⟩ := hw L i h
      exact ⟨v, A, c, a1, Nat.le_trans HB1.out.size a2, a3.more HB1.out.size, a4⟩
    have HB2 := Lib.hid (ext_trans HB1.out hb2)
    clear hw hb2 hb1 HB1 hc1 hf1
    cases hR : R.isSome
    · obtain rfl : cd = 5 := HCD.out false hR
      clear hR HCD
      go_wp2
      go_ret2
      exact ⟨g, rfl, HB2.out, HW.out⟩
    · obtain rfl : cd = 0 := HCD.out true hR
      clear hR HCD
      go_wp2
      go_ret2
      exact ⟨g, rfl, HB2.out, HW.out⟩
/-- The source of a note, and its code. -/
def ntSd (x : Nt) : Sd := (x.sp, x.sd, x.sq)
def ntSo (x : Nt) : So := if x.kind = 1 then ⟨termsOf x.num x.den, [], []⟩ else if x.kind = 2 then ⟨shT x.terms, [], []⟩ else ⟨hdR (pdR (ntSd x)), cyR (pdR (ntSd x)), List.replicate (cyR (pdR (ntSd x))).length 0⟩
def ntCd (x : Nt) : Int := if x.kind = 1 then 0 else if x.kind = 2 then 0 else pdC (ntSd x)
/-- A valid note is one of three. -/
theorem nt_kinds {x : Nt} (h : ntOk x = true) : (x.kind = 1 ∧ fracOk x.num x.den = true) ∨ (x.kind = 2 ∧ termsB x.terms = true) ∨ (x.kind = 3 ∧ surdB x.sp x.sd x.sq = true) := by
  unfold ntOk at h
  rw [Bool.and_eq_true] at h
  obtain ⟨_, h⟩ := h
  split at h
  · rename_i h1; rw [Bool.and_eq_true] at h; exact .inl ⟨h1, h.1⟩
  · split at h
    · rename_i h1; rw [Bool.and_eq_true] at h; exact .inr (.inl ⟨h1, h.1⟩)
    · split at h
      · rename_i h1; rw [Bool.and_eq_true] at h; exact .inr (.inr ⟨h1, h.1⟩)
      · cases h
theorem termsAll_bd : ∀ (xs : List Int) (i : Nat), termsAll i xs = true → ∀ x ∈ xs, -1000000000 ≤ x ∧ x ≤ 1000000000
  | [], _, _, x, hx => by cases hx
  | y :: ys, i, h, x, hx => by
    unfold termsAll at h
    rw [Bool.and_eq_true] at h
    rcases List.mem_cons.1 hx with rfl | hx
    · have h1 := h.1
      unfold tmB at h1
      have := inR_true.1 h1
      split at this <;> omega
    · exact termsAll_bd ys (i + 1) h.2 x hx
theorem termsB_bd {xs : List Int} (h : termsB xs = true) : xs.length ≤ 60 ∧ 1 ≤ xs.length ∧ ∀ x ∈ xs, -1000000000 ≤ x ∧ x ≤ 1000000000 := by
  unfold termsB at h
  rw [Bool.and_eq_true] at h
  have := inR_true.1 h.2
  exact ⟨by omega, by omega, termsAll_bd xs 0 h.1⟩
theorem shT_bd {xs : List Int} (h : ∀ x ∈ xs, -1000000000 ≤ x ∧ x ≤ 1000000000) : ∀ x ∈ shT xs, -1000000001 ≤ x ∧ x ≤ 1000000001 := by
  intro x hx
  unfold shT at hx
  split at hx
  · rename_i hc
    rcases List.mem_or_eq_of_mem_set hx with h1 | h1
    · have := h x (List.mem_of_mem_take h1); omega
    · have hm : xs.getD (xs.length - 2) 0 ∈ xs := by
        rw [List.getD_eq_getElem?_getD, List.getElem?_eq_getElem (by omega)]
        exact List.getElem_mem _
      have := h _ hm
      omega
  · have := h x hx; omega
theorem fin_tm (xs : List Int) (k : Nat) : tmS ⟨xs, [], []⟩ k = xs[k]? := by
  unfold tmS
  simp only
  split
  · rename_i h; rw [List.getD_eq_getElem?_getD, List.getElem?_eq_getElem h]; rfl
  · rename_i h; rw [if_pos (by simp), List.getElem?_eq_none (by omega)]
theorem fin_tmB {xs : List Int} (h : xs.length ≤ 1000) : TmB ⟨xs, [], []⟩ := ⟨h, by simp, rfl, fun k hk => by simp at hk⟩
theorem pd_tmB {s : Sd} {R : List Sd × Nat} (h : pdR s = some R) : TmB ⟨hdR (pdR s), cyR (pdR s), List.replicate (cyR (pdR s)).length 0⟩ := by
  obtain ⟨L, i⟩ := R
  obtain ⟨h1, h2, _, h3, h4⟩ := pdR_facts h
  have hok := per_ok 400 [] s (L, i) h1 (by simp) h2
  rw [h]
  refine ⟨?_, ?_, ?_, fun k hk => ?_⟩
  · simp [hdR, headOf]; omega
  · simp [cyR, cycOf]; omega
  · simp
  · refine ⟨?_, ?_⟩
    · have hk' : k < (cyR (some (L, i))).length := hk
      have hm : (cyR (some (L, i))).getD k 0 ∈ cyR (some (L, i)) := by
        rw [List.getD_eq_getElem?_getD, List.getElem?_eq_getElem hk']
        exact List.getElem_mem _
      have : ∀ t ∈ cyR (some (L, i)), -1001001 ≤ t ∧ t ≤ 1001001 := by
        intro t ht
        simp only [cyR, cycOf, Option.map_some, Option.getD_some, List.mem_map] at ht
        obtain ⟨y, hy, rfl⟩ := ht
        obtain ⟨p, d, q⟩ := y
        exact (step_bds (hok _ (List.mem_of_mem_drop hy))).2.2.2.2.1
      have := this _ hm
      exact ⟨by show -1000000000 ≤ (cyR (some (L, i))).getD k 0; omega, by show (cyR (some (L, i))).getD k 0 ≤ 1000000000; omega⟩
    · have e : (List.replicate (cyR (some (L, i))).length (0 : Int)).getD k 0 = 0 := by
        rw [List.getD_eq_getElem?_getD, List.getElem?_replicate]
        split <;> rfl
      show 0 ≤ (List.replicate (cyR (some (L, i))).length (0 : Int)).getD k 0 ∧ (List.replicate (cyR (some (L, i))).length (0 : Int)).getD k 0 ≤ 1000000
      rw [e]
      omega
theorem expT_len : ∀ (m k : Nat) (n d : Int), 0 ≤ d → d < (2 : Int) ^ m → (expT k n d).length ≤ 2 * m
  | 0, k, n, d, h0, h1 => by
    rw [show d = 0 by simp at h1; omega, expT_zero]; simp
  | m + 1, k, n, d, h0, h1 => by
    rw [Int.pow_succ] at h1
    cases k with
    | zero => simp [expT]
    | succ k =>
      unfold expT
      split
      · simp
      · rename_i hd
        have r1 := Int.emod_nonneg n (b := d) hd
        have r2 := Int.emod_lt_of_pos n (show 0 < d by omega)
        generalize n % d = r at *
        cases k with
        | zero => simp [expT]; omega
        | succ k =>
          unfold expT
          split
          · simp; omega
          · rename_i hr
            have s1 := Int.emod_nonneg d (b := r) hr
            have s2 := Int.emod_lt_of_pos d (show 0 < r by omega)
            have s3 := Int.mul_ediv_add_emod d r
            have s4 : 1 ≤ d / r := by
              have : (1 : Int) * r ≤ d := by omega
              exact (Int.le_ediv_iff_mul_le (by omega)).2 this
            have s5 : r * 1 ≤ r * (d / r) := Int.mul_le_mul_of_nonneg_left s4 (by omega)
            have ih := expT_len m k r (d % r) s1 (by omega)
            simp only [List.length_cons]
            omega
theorem terms_short {n d : Int} (h : fracOk n d = true) : (termsOf n d).length ≤ 60 := by
  obtain ⟨d1, d2, _⟩ := fracOk_true.1 h
  have := expT_len 30 d.toNat n d (by omega) (by
    have : (2 : Int) ^ 30 = 1073741824 := by decide
    omega)
  exact this
theorem ntSo_tmB {x : Nt} (h : ntOk x = true) (h0 : ntCd x = 0) : TmB (ntSo x) := by
  rcases nt_kinds h with ⟨h1, h2⟩ | ⟨h1, h2⟩ | ⟨h1, h2⟩
  · obtain ⟨d1, d2, n1, n2, _⟩ := fracOk_true.1 h2
    rw [ntSo, if_pos h1]
    exact fin_tmB (by have := terms_short h2; omega)
  · rw [ntSo, if_neg (by omega), if_pos h1]
    have := termsB_bd h2
    exact fin_tmB (by have := shT_le x.terms; omega)
  · rw [ntSo, if_neg (by omega), if_neg (by omega)]
    rw [ntCd, if_neg (by omega), if_neg (by omega)] at h0
    cases hR : pdR (ntSd x) with
    | none => exact absurd h0 (pdR_none hR)
    | some R => rw [← hR]; exact pd_tmB hR
end Go.Proofs.Ytgnifhegkjmgaaa
