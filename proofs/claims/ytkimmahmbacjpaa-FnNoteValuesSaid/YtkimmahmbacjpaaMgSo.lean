/- XSoOfW XSoOfI XSoOfS in one text. No condition but those that each theorem names. -/
import Derived.Test.YtkimmahmbacjpaaMgTm
import Derived.Test.YtkimmahmbacjpaaPdW
import Derived.Test.YtkimmahmbacjpaaWalkC
import Derived.Test.YtkimmahmbacjpaaNoteOkW
import Derived.Deep.RegionHeld3
import Derived.Deep.DeepCutAuto
/- Notes as sources of terms: both walks. No condition but those that each theorem names. -/
namespace Go.Proofs.Ytkimmahmbacjpaa
open Go.RowKit Go.Sort Go.Maps Go.WideMaps

def WkC (B g : Nat) (L : List Sd) (i : Nat) (W : World) : Prop :=
  ∃ v A c, BoxV g [v, .slice A L.length c, .int .i64 i] W ∧ B ≤ g ∧ Wr (Value.int .i64) W B A (L.map flS) ∧ L.length ≤ c ∧ c ≤ maxLen
def RetCoC (w : World) (R : Option (List Sd × Nat)) (code : Int) (e : Ending) (w' : World) : Prop :=
  ∃ g, e = .returned (.tuple #[.pointer (some ⟨g, 0, none⟩), .int .i64 code]) ∧ Below w.heap.size w w' ∧ ∀ L i, R = some (L, i) → WkC w.heap.size g L i w'
set_option maxHeartbeats 1000000 in
theorem l08Code_cap (p d q : Int) (w : World) :
    Calls Try.prog 79 #[surdV p d q] w (RetCoC w (pdR (p, d, q)) (pdC (p, d, q))) := by
  have HV := Lib.hid (fun W : World => l07Ok_any p d q W)
  have HOK : Hid (sdOk (p, d, q) = surdB p d q) := rfl
  cases hs : surdB p d q
  · have e1 : pdR (p, d, q) = none := by rw [pdR, HOK.out, hs]; rfl
    have e2 : pdC (p, d, q) = 1 := by rw [pdC, HOK.out, hs]; rfl
    rw [e1, e2]
    clear e1 e2
    rw [hs] at HV
    clear hs HOK
    unfold surdV at *
    go_enter Try.func79, Try.ntmps79
    go_wp2_with fail
    refine (HV.out _).mono ?_
    rintro e w1 ⟨rfl, hb1⟩
    go_wp2
    go_ret2
    exact ⟨_, rfl, ext_alloc (ext_trans (ext1 _ _) hb1) _, fun L i h => by cases h⟩
  · have e1 : pdR (p, d, q) = perOf (p, d, q) := by rw [pdR, HOK.out, hs]; rfl
    have e2 : pdC (p, d, q) = if (perOf (p, d, q)).isSome = true then 0 else 5 := by rw [pdC, HOK.out, hs]; rfl
    have HP := Lib.hid (fun W : World => l08Walk_cap p d q W hs)
    rw [e1, e2]
    clear e1 e2
    rw [hs] at HV
    clear hs HOK
    generalize perOf (p, d, q) = R at *
    obtain ⟨cd, hcd⟩ : ∃ cd, (if R.isSome = true then (0 : Int) else 5) = cd := ⟨_, rfl⟩
    rw [hcd]
    have HCD : Hid (∀ b, R.isSome = b → cd = if b = true then 0 else 5) := fun b hb => by rw [← hcd, hb]
    clear hcd
    unfold surdV at *
    go_enter Try.func79, Try.ntmps79
    go_wp2_with fail
    refine (HV.out _).mono ?_
    rintro e w1 ⟨rfl, hb1⟩
    obtain ⟨hc1, hf1⟩ := bcell hb1
    have hz1 : w.heap.size < w1.heap.size := by have := hb1.size; simp at this; omega
    have HB1 := Lib.hid (ext_trans (ext1 w (.cells #[.int .i64 p, .int .i64 d, .int .i64 q] 34)) hb1)
    go_wp2_with fail
    refine (HP.out _).mono ?_
    rintro e w2 ⟨g, rfl, hb2, hw⟩
    have HW : Hid (∀ L i, R = some (L, i) → WkC w.heap.size g L i w2) := fun L i h => by
      obtain ⟨v, A, c, a1, a2, a3, a4⟩ := hw L i h
      exact ⟨v, A, c, a1, Nat.le_trans HB1.out.size a2, a3.more HB1.out.size, a4⟩
    have HB2 := Lib.hid (ext_trans HB1.out hb2)
    clear hw hb2 hb1 HB1 hc1 hf1
    cases hR : R.isSome
    · obtain rfl : cd = 5 := HCD.out false hR
      clear hR HCD
      go_wp2
      go_ret2
      exact ⟨g, rfl, HB2.out, HW.out⟩
    · obtain rfl : cd = 0 := HCD.out true hR
      clear hR HCD
      go_wp2
      go_ret2
      exact ⟨g, rfl, HB2.out, HW.out⟩
/-- The source of a note, and its code. -/
def ntSd (x : Nt) : Sd := (x.sp, x.sd, x.sq)
def ntSo (x : Nt) : So := if x.kind = 1 then ⟨termsOf x.num x.den, [], []⟩ else if x.kind = 2 then ⟨shT x.terms, [], []⟩ else ⟨hdR (pdR (ntSd x)), cyR (pdR (ntSd x)), List.replicate (cyR (pdR (ntSd x))).length 0⟩
def ntCd (x : Nt) : Int := if x.kind = 1 then 0 else if x.kind = 2 then 0 else pdC (ntSd x)
/-- A valid note is one of three. -/
theorem nt_kinds {x : Nt} (h : ntOk x = true) : (x.kind = 1 ∧ fracOk x.num x.den = true) ∨ (x.kind = 2 ∧ termsB x.terms = true) ∨ (x.kind = 3 ∧ surdB x.sp x.sd x.sq = true) := by
  unfold ntOk at h
  rw [Bool.and_eq_true] at h
  obtain ⟨_, h⟩ := h
  split at h
  · rename_i h1; rw [Bool.and_eq_true] at h; exact .inl ⟨h1, h.1⟩
  · split at h
    · rename_i h1; rw [Bool.and_eq_true] at h; exact .inr (.inl ⟨h1, h.1⟩)
    · split at h
      · rename_i h1; rw [Bool.and_eq_true] at h; exact .inr (.inr ⟨h1, h.1⟩)
      · cases h
theorem termsAll_bd : ∀ (xs : List Int) (i : Nat), termsAll i xs = true → ∀ x ∈ xs, -1000000000 ≤ x ∧ x ≤ 1000000000
  | [], _, _, x, hx => by cases hx
  | y :: ys, i, h, x, hx => by
    unfold termsAll at h
    rw [Bool.and_eq_true] at h
    rcases List.mem_cons.1 hx with rfl | hx
    · have h1 := h.1
      unfold tmB at h1
      have := inR_true.1 h1
      split at this <;> omega
    · exact termsAll_bd ys (i + 1) h.2 x hx
theorem termsB_bd {xs : List Int} (h : termsB xs = true) : xs.length ≤ 60 ∧ 1 ≤ xs.length ∧ ∀ x ∈ xs, -1000000000 ≤ x ∧ x ≤ 1000000000 := by
  unfold termsB at h
  rw [Bool.and_eq_true] at h
  have := inR_true.1 h.2
  exact ⟨by omega, by omega, termsAll_bd xs 0 h.1⟩
theorem shT_bd {xs : List Int} (h : ∀ x ∈ xs, -1000000000 ≤ x ∧ x ≤ 1000000000) : ∀ x ∈ shT xs, -1000000001 ≤ x ∧ x ≤ 1000000001 := by
  intro x hx
  unfold shT at hx
  split at hx
  · rename_i hc
    rcases List.mem_or_eq_of_mem_set hx with h1 | h1
    · have := h x (List.mem_of_mem_take h1); omega
    · have hm : xs.getD (xs.length - 2) 0 ∈ xs := by
        rw [List.getD_eq_getElem?_getD, List.getElem?_eq_getElem (by omega)]
        exact List.getElem_mem _
      have := h _ hm
      omega
  · have := h x hx; omega
theorem fin_tm (xs : List Int) (k : Nat) : tmS ⟨xs, [], []⟩ k = xs[k]? := by
  unfold tmS
  simp only
  split
  · rename_i h; rw [List.getD_eq_getElem?_getD, List.getElem?_eq_getElem h]; rfl
  · rename_i h; rw [if_pos (by simp), List.getElem?_eq_none (by omega)]
theorem fin_tmB {xs : List Int} (h : xs.length ≤ 1000) : TmB ⟨xs, [], []⟩ := ⟨h, by simp, rfl, fun k hk => by simp at hk⟩
theorem pd_tmB {s : Sd} {R : List Sd × Nat} (h : pdR s = some R) : TmB ⟨hdR (pdR s), cyR (pdR s), List.replicate (cyR (pdR s)).length 0⟩ := by
  obtain ⟨L, i⟩ := R
  obtain ⟨h1, h2, _, h3, h4⟩ := pdR_facts h
  have hok := per_ok 400 [] s (L, i) h1 (by simp) h2
  rw [h]
  refine ⟨?_, ?_, ?_, fun k hk => ?_⟩
  · simp [hdR, headOf]; omega
  · simp [cyR, cycOf]; omega
  · simp
  · refine ⟨?_, ?_⟩
    · have hk' : k < (cyR (some (L, i))).length := hk
      have hm : (cyR (some (L, i))).getD k 0 ∈ cyR (some (L, i)) := by
        rw [List.getD_eq_getElem?_getD, List.getElem?_eq_getElem hk']
        exact List.getElem_mem _
      have : ∀ t ∈ cyR (some (L, i)), -1001001 ≤ t ∧ t ≤ 1001001 := by
        intro t ht
        simp only [cyR, cycOf, Option.map_some, Option.getD_some, List.mem_map] at ht
        obtain ⟨y, hy, rfl⟩ := ht
        obtain ⟨p, d, q⟩ := y
        exact (step_bds (hok _ (List.mem_of_mem_drop hy))).2.2.2.2.1
      have := this _ hm
      exact ⟨by show -1000000000 ≤ (cyR (some (L, i))).getD k 0; omega, by show (cyR (some (L, i))).getD k 0 ≤ 1000000000; omega⟩
    · have e : (List.replicate (cyR (some (L, i))).length (0 : Int)).getD k 0 = 0 := by
        rw [List.getD_eq_getElem?_getD, List.getElem?_replicate]
        split <;> rfl
      show 0 ≤ (List.replicate (cyR (some (L, i))).length (0 : Int)).getD k 0 ∧ (List.replicate (cyR (some (L, i))).length (0 : Int)).getD k 0 ≤ 1000000
      rw [e]
      omega
theorem expT_len : ∀ (m k : Nat) (n d : Int), 0 ≤ d → d < (2 : Int) ^ m → (expT k n d).length ≤ 2 * m
  | 0, k, n, d, h0, h1 => by
    rw [show d = 0 by simp at h1; omega, expT_zero]; simp
  | m + 1, k, n, d, h0, h1 => by
    rw [Int.pow_succ] at h1
    cases k with
    | zero => simp [expT]
    | succ k =>
      unfold expT
      split
      · simp
      · rename_i hd
        have r1 := Int.emod_nonneg n (b := d) hd
        have r2 := Int.emod_lt_of_pos n (show 0 < d by omega)
        generalize n % d = r at *
        cases k with
        | zero => simp [expT]; omega
        | succ k =>
          unfold expT
          split
          · simp; omega
          · rename_i hr
            have s1 := Int.emod_nonneg d (b := r) hr
            have s2 := Int.emod_lt_of_pos d (show 0 < r by omega)
            have s3 := Int.mul_ediv_add_emod d r
            have s4 : 1 ≤ d / r := by
              have : (1 : Int) * r ≤ d := by omega
              exact (Int.le_ediv_iff_mul_le (by omega)).2 this
            have s5 : r * 1 ≤ r * (d / r) := Int.mul_le_mul_of_nonneg_left s4 (by omega)
            have ih := expT_len m k r (d % r) s1 (by omega)
            simp only [List.length_cons]
            omega
theorem terms_short {n d : Int} (h : fracOk n d = true) : (termsOf n d).length ≤ 60 := by
  obtain ⟨d1, d2, _⟩ := fracOk_true.1 h
  have := expT_len 30 d.toNat n d (by omega) (by
    have : (2 : Int) ^ 30 = 1073741824 := by decide
    omega)
  exact this
theorem ntSo_tmB {x : Nt} (h : ntOk x = true) (h0 : ntCd x = 0) : TmB (ntSo x) := by
  rcases nt_kinds h with ⟨h1, h2⟩ | ⟨h1, h2⟩ | ⟨h1, h2⟩
  · obtain ⟨d1, d2, n1, n2, _⟩ := fracOk_true.1 h2
    rw [ntSo, if_pos h1]
    exact fin_tmB (by have := terms_short h2; omega)
  · rw [ntSo, if_neg (by omega), if_pos h1]
    have := termsB_bd h2
    exact fin_tmB (by have := shT_le x.terms; omega)
  · rw [ntSo, if_neg (by omega), if_neg (by omega)]
    rw [ntCd, if_neg (by omega), if_neg (by omega)] at h0
    cases hR : pdR (ntSd x) with
    | none => exact absurd h0 (pdR_none hR)
    | some R => rw [← hR]; exact pd_tmB hR
end Go.Proofs.Ytkimmahmbacjpaa

/- Notes as sources of terms: the program's walk. No condition but those that each theorem names. -/
namespace Go.Proofs.Ytkimmahmbacjpaa
open Go.RowKit Go.Sort Go.Maps Go.WideMaps

def RetSh (w : World) (x : Nt) (e : Ending) (w' : World) : Prop :=
  ∃ H a ca P b cb G c cc L n cl fin, e = .returned (.tuple #[shV H a ca P b cb G c cc L n cl fin, .int .i64 (ntCd x)]) ∧ (ntCd x = 0 → ShOk w' w'.heap.size H a P b G c L n fin (tmS (ntSo x))) ∧ Below w.heap.size w w'
theorem RetSh.fin_ {w w' : World} {x : Nt} {A : Option Addr} {n c : Nat} {xs : List Int} (h1 : ntSo x = ⟨xs, [], []⟩) (h2 : ntCd x = 0) (hn : xs.length = n) (hw : Rd (Value.int .i64) w' w'.heap.size A xs) (hl : xs.length ≤ 1000) (hb : Below w.heap.size w w') : RetSh w x (.returned (.tuple #[shV none 0 0 none 0 0 none 0 0 A n c true, .int .i64 0])) w' := by
  subst hn
  refine ⟨none, 0, 0, none, 0, 0, none, 0, 0, A, xs.length, c, true, by rw [h2], fun _ => .inl ⟨rfl, xs, rfl, hw, hl, fun k => ?_⟩, hb⟩
  rw [h1]; exact fin_tm xs k
/-- What a made slice of integers holds. -/
theorem made_wr (W : World) (n : Nat) (T : TypeId) : Wr (Value.int .i64) (W.alloc (.cells (madeCells #[.int .i64 0] n) T)) W.heap.size (some ⟨W.heap.size, 0, none⟩) (List.replicate n 0) := fun _ => by
  refine ⟨W.heap.size, 0, rfl, Nat.le_refl _, by simp, fun j x hx => ?_, fun j => World.frozen?_alloc_at _ _ _ _ rfl⟩
  rw [List.getElem?_replicate] at hx
  split at hx
  · injection hx with hx
    subst hx
    rename_i hj
    rw [Nat.zero_add, cell_one]
    simp [madeCells, hj, Nat.mod_one]
  · cases hx
theorem cell_two_2 (w : World) (o : Obj) (C : Array Value) (T : TypeId) (j : Nat) : ((w.alloc o).alloc (.cells C T)).cell? ⟨w.heap.size + 1, j, none⟩ = C[j]? := by
  have h := cell_one (w.alloc o) C T j
  rwa [World.size_alloc] at h
set_option maxRecDepth 100000 in
set_option maxHeartbeats 2000000 in
theorem iTermsOf_any (x : Nt) (T : Option Addr) (c : Nat) (w : World) (hx : RdT w w.heap.size T c x.terms) (hok : ntOk x = true) :
    Calls Try.prog 38 #[ntV x.name x.kind x.num x.den T x.terms.length c x.sp x.sd x.sq] w (RetSh w x) := by
  rcases nt_kinds hok with ⟨h1, h2⟩ | ⟨h1, h2⟩ | ⟨h1, h2⟩
  · obtain ⟨d1, d2, n1, n2, _⟩ := fracOk_true.1 h2
    have HE := Lib.hid (fun W : World => expand_any x.num x.den W n1 n2 d1 d2)
    have HF : Hid (∀ (w' : World) (A : Option Addr) (n c : Nat), (termsOf x.num x.den).length = n → Rd (Value.int .i64) w' w'.heap.size A (termsOf x.num x.den) → Below w.heap.size w w' → RetSh w x (.returned (.tuple #[shV none 0 0 none 0 0 none 0 0 A n c true, .int .i64 0])) w') := fun w' A n c hn hw hb =>
      RetSh.fin_ (by rw [ntSo, if_pos h1]) (by rw [ntCd, if_pos h1]) hn hw (by have := terms_short h2; omega) hb
    have e1 : (x.kind == 1) = true := by simpa using h1
    clear hx hok h1 h2 d1 d2 n1 n2
    unfold ntV shV at *
    go_enter Try.func38, Try.ntmps38
    go_wp2_with fail
    refine (HE.out _).mono ?_
    rintro e w1 ⟨A1, c1, rfl, hw1, hb1⟩
    obtain ⟨hc1, hf1⟩ := bcell hb1
    have hy1 := hb1.size
    (try simp at hy1)
    have hz0 : w.heap.size < w1.heap.size := by omega
    have hz1 : w.heap.size + 1 < w1.heap.size := by omega
    have HB1 := Lib.hid (ext_trans (ext_alloc (ext1 w (.cells #[.string x.name, .int .i64 x.kind, .int .i64 x.num, .int .i64 x.den, .slice T x.terms.length c, .int .i64 x.sp, .int .i64 x.sd, .int .i64 x.sq] 36)) (.cells #[.slice none 0 0, .slice none 0 0, .slice none 0 0, .slice none 0 0, .bool false] 74)) hb1)
    have r : ∀ j v, [Value.slice none 0 0, .slice none 0 0, .slice none 0 0, .slice none 0 0, .bool false][j]? = some v → w1.cell? ⟨w.heap.size + 1, j, none⟩ = some v := fun j v hv => by
      rw [hc1 _ _ (by simp), cell_two_2, ← Array.getElem?_toList]
      exact hv
    have r0 := r 0 _ rfl
    have r1 := r 1 _ rfl
    have r2 := r 2 _ rfl
    have r3 := r 3 _ rfl
    have r4 := r 4 _ rfl
    clear r
    have HW : Hid (Wr (Value.int .i64) w1 (w.heap.size + 2) A1 (termsOf x.num x.den)) := by
      have h := hw1.more (B' := w.heap.size + 2) (by simp)
      exact h
    clear hw1
    go_wp2
    refine bodyPost_ret (v := .tuple #[.agg #[.slice none 0 0, .slice none 0 0, .slice none 0 0, .slice A1 (termsOf x.num x.den).length c1, .bool true], .int .i64 0]) (by simp [results, Try.results38, go_sem, r0, r1, r2, r3, r4]; done) rfl (HF.out _ A1 _ c1 rfl ?_ ?_)
    · refine Wr.rd (B := w.heap.size + 2) ?_
      iterate 5 (refine Wr.setLow ?_ (by simp) _)
      exact HW.out
    · iterate 5 (refine ext_set ?_ (by simp) _)
      exact HB1.out
  · obtain ⟨t1, t2, t3⟩ := termsB_bd h2
    have HE : Hid (∀ W : World, Below w.heap.size w W → Calls Try.prog 69 #[.slice T x.terms.length c] W (RetCap W (shT x.terms))) := fun W hb => shortForm_any T c x.terms W (hx.next hb).1 (by omega) hx.2 (fun y hy => by have := t3 y hy; omega)
    have HF : Hid (∀ (w' : World) (A : Option Addr) (n c : Nat), (shT x.terms).length = n → Rd (Value.int .i64) w' w'.heap.size A (shT x.terms) → Below w.heap.size w w' → RetSh w x (.returned (.tuple #[shV none 0 0 none 0 0 none 0 0 A n c true, .int .i64 0])) w') := fun w' A n c hn hw hb =>
      RetSh.fin_ (by rw [ntSo, if_neg (by omega), if_pos h1]) (by rw [ntCd, if_neg (by omega), if_pos h1]) hn hw (by have := shT_le x.terms; omega) hb
    have e1 : (x.kind == 1) = false := by simp; omega
    have e2 : (x.kind == 2) = true := by simpa using h1
    clear hx hok h1 h2 t1 t2 t3
    unfold ntV shV at *
    go_enter Try.func38, Try.ntmps38
    go_wp2_with fail
    refine (HE.out _ (ext_alloc (ext1 _ _) _)).mono ?_
    rintro e w1 ⟨A1, c1, rfl, hw1, _, hb1⟩
    obtain ⟨hc1, hf1⟩ := bcell hb1
    have hy1 := hb1.size
    (try simp at hy1)
    have hz0 : w.heap.size < w1.heap.size := by omega
    have hz1 : w.heap.size + 1 < w1.heap.size := by omega
    have HB1 := Lib.hid (ext_trans (ext_alloc (ext1 w (.cells #[.string x.name, .int .i64 x.kind, .int .i64 x.num, .int .i64 x.den, .slice T x.terms.length c, .int .i64 x.sp, .int .i64 x.sd, .int .i64 x.sq] 36)) (.cells #[.slice none 0 0, .slice none 0 0, .slice none 0 0, .slice none 0 0, .bool false] 74)) hb1)
    have r : ∀ j v, [Value.slice none 0 0, .slice none 0 0, .slice none 0 0, .slice none 0 0, .bool false][j]? = some v → w1.cell? ⟨w.heap.size + 1, j, none⟩ = some v := fun j v hv => by
      rw [hc1 _ _ (by simp), cell_two_2, ← Array.getElem?_toList]
      exact hv
    have r0 := r 0 _ rfl
    have r1 := r 1 _ rfl
    have r2 := r 2 _ rfl
    have r3 := r 3 _ rfl
    have r4 := r 4 _ rfl
    clear r
    have HW : Hid (Wr (Value.int .i64) w1 (w.heap.size + 2) A1 (shT x.terms)) := by
      have h := hw1.more (B' := w.heap.size + 2) (by simp)
      exact h
    clear hw1
    go_wp2
    refine bodyPost_ret (v := .tuple #[.agg #[.slice none 0 0, .slice none 0 0, .slice none 0 0, .slice A1 (shT x.terms).length c1, .bool true], .int .i64 0]) (by simp [results, Try.results38, go_sem, r0, r1, r2, r3, r4]; done) rfl (HF.out _ A1 _ c1 rfl ?_ ?_)
    · refine Wr.rd (B := w.heap.size + 2) ?_
      iterate 5 (refine Wr.setLow ?_ (by simp) _)
      exact HW.out
    · iterate 5 (refine ext_set ?_ (by simp) _)
      exact HB1.out
  · obtain ⟨i0, hi, hz0', hz1', hz2'⟩ := info_parts info64
    have HE := Lib.hid (fun W : World => iPeriodOf_any x.sp x.sd x.sq W)
    have hcn : (cyR (pdR (ntSd x))).length ≤ 1000 := by
      cases hR : pdR (ntSd x) with
      | none => simp [cyR]
      | some R => have := (pd_tmB hR).2.1; rw [hR] at this; exact this
    have HMK : Hid (∀ W : World, (Instr.makeSlice 32 (.int .i64 ((cyR (pdR (ntSd x))).length : Int)) (.int .i64 ((cyR (pdR (ntSd x))).length : Int))).run Try.prog W = .ok (.slice (some ⟨W.heap.size, 0, none⟩) (cyR (pdR (ntSd x))).length (cyR (pdR (ntSd x))).length) (W.alloc (.cells (madeCells #[.int .i64 0] (cyR (pdR (ntSd x))).length) 2))) := fun W => by
      have h := run_make (P := Try.prog) W 32 2 i0 _ Try.underlying32 hi hz0' .i64 .i64 ((cyR (pdR (ntSd x))).length : Int) ((cyR (pdR (ntSd x))).length : Int) (by omega) (by omega) (by rw [hz2']; omega) (by omega)
      rw [hz1'] at h
      simpa [Value.cells] using h
    have HF : Hid (∀ (w' : World) (A1 : Option Addr) (c1 : Nat) (A2 : Option Addr) (c2 : Nat) (A3 : Option Addr) (c3 : Nat), Rd (Value.int .i64) w' w'.heap.size A1 (hdR (pdR (ntSd x))) → Rd (Value.int .i64) w' w'.heap.size A2 (cyR (pdR (ntSd x))) → Rd (Value.int .i64) w' w'.heap.size A3 (List.replicate (cyR (pdR (ntSd x))).length 0) → Below w.heap.size w w' → RetSh w x (.returned (.tuple #[shV A1 (hdR (pdR (ntSd x))).length c1 A2 (cyR (pdR (ntSd x))).length c2 A3 (cyR (pdR (ntSd x))).length c3 none 0 0 false, .int .i64 (pdC (ntSd x))])) w') := fun w' A1 c1 A2 c2 A3 c3 ha hb hc hbel => by
      have k1 : ntSo x = ⟨hdR (pdR (ntSd x)), cyR (pdR (ntSd x)), List.replicate (cyR (pdR (ntSd x))).length 0⟩ := by rw [ntSo, if_neg (by omega), if_neg (by omega)]
      have k2 : ntCd x = pdC (ntSd x) := by rw [ntCd, if_neg (by omega), if_neg (by omega)]
      refine ⟨A1, _, c1, A2, _, c2, A3, _, c3, none, 0, 0, false, by rw [k2], fun h0 => .inr ⟨rfl, ntSo x, ?_, ?_, ?_, ?_, ntSo_tmB hok h0, fun _ => rfl⟩, hbel⟩
      · rw [k1]
      · rw [k1]
      · rw [k1]; simp
      · rw [k1]; exact ⟨ha, hb, hc⟩
    have e1 : (x.kind == 1) = false := by simp; omega
    have e2 : (x.kind == 2) = false := by simp; omega
    have HSD : Hid (ntSd x = (x.sp, x.sd, x.sq)) := rfl
    rw [← HSD.out] at HE
    clear hx hok h1 h2 hi HSD
    unfold RetPd at HE
    generalize pdR (ntSd x) = PR at *
    generalize pdC (ntSd x) = PC at *
    unfold ntV shV surdV at *
    go_enter Try.func38, Try.ntmps38
    go_wp2_with fail
    refine (HE.out _).mono ?_
    rintro e w1 ⟨A1, c1, A2, c2, rfl, hw1, hw2, _, hb1⟩
    obtain ⟨hc1, hf1⟩ := bcell hb1
    have hy1 := hb1.size
    (try simp at hy1)
    have hz0 : w.heap.size < w1.heap.size := by omega
    have hz1 : w.heap.size + 1 < w1.heap.size := by omega
    have HB1 := Lib.hid (ext_trans (ext_alloc (ext1 w (.cells #[.string x.name, .int .i64 x.kind, .int .i64 x.num, .int .i64 x.den, .slice T x.terms.length c, .int .i64 x.sp, .int .i64 x.sd, .int .i64 x.sq] 36)) (.cells #[.slice none 0 0, .slice none 0 0, .slice none 0 0, .slice none 0 0, .bool false] 74)) hb1)
    have r : ∀ j v, [Value.slice none 0 0, .slice none 0 0, .slice none 0 0, .slice none 0 0, .bool false][j]? = some v → w1.cell? ⟨w.heap.size + 1, j, none⟩ = some v := fun j v hv => by
      rw [hc1 _ _ (by simp), cell_two_2, ← Array.getElem?_toList]
      exact hv
    have r0 := r 0 _ rfl
    have r1 := r 1 _ rfl
    have r2 := r 2 _ rfl
    have r3 := r 3 _ rfl
    have r4 := r 4 _ rfl
    clear r
    have HW1 : Hid (Wr (Value.int .i64) w1 (w.heap.size + 2) A1 (hdR PR)) := by
      have h := hw1.more (B' := w.heap.size + 2) (by simp)
      exact h
    have HW2 : Hid (Wr (Value.int .i64) w1 (w.heap.size + 2) A2 (cyR PR)) := by
      have h := hw2.more (B' := w.heap.size + 2) (by simp)
      exact h
    clear hw1 hw2
    have HM := Lib.hid (made_wr w1 (cyR PR).length 2)
    have HW1 := Lib.hid (HW1.out.below (ext1 w1 (.cells (madeCells #[.int .i64 0] (cyR PR).length) 2)))
    have HW2 := Lib.hid (HW2.out.below (ext1 w1 (.cells (madeCells #[.int .i64 0] (cyR PR).length) 2)))
    have HB2 := Lib.hid (ext_alloc HB1.out (.cells (madeCells #[.int .i64 0] (cyR PR).length) 2))
    have s : ∀ (j : Nat) (v : Value), w1.cell? ⟨w.heap.size + 1, j, none⟩ = some v → (w1.alloc (.cells (madeCells #[.int .i64 0] (cyR PR).length) 2)).cell? ⟨w.heap.size + 1, j, none⟩ = some v := fun j v h => (World.cell?_alloc_lt _ _ _ hz1).trans h
    have s0 := s 0 _ r0
    have s1 := s 1 _ r1
    have s2 := s 2 _ r2
    have s3 := s 3 _ r3
    have s4 := s 4 _ r4
    have hz2 : w.heap.size + 2 ≤ w1.heap.size := by omega
    have f : ∀ j, (w1.alloc (.cells (madeCells #[.int .i64 0] (cyR PR).length) 2)).frozen? ⟨w.heap.size + 1, j, none⟩ = false := fun j => ((ext1 w1 (.cells (madeCells #[.int .i64 0] (cyR PR).length) 2)).frozen (p := ⟨w.heap.size + 1, j, none⟩) hz1).trans ((hf1 _ _ (by simp)).trans (World.frozen?_alloc_at _ _ _ _ (by simp)))
    have f0 := f 0
    have f1 := f 1
    have f2 := f 2
    have f3 := f 3
    have f4 := f 4
    have hmk := HMK.out w1
    clear s f HMK hc1 hf1 r0 r1 r2 r3 r4
    generalize w1.alloc (.cells (madeCells #[.int .i64 0] (cyR PR).length) 2) = W2 at *
    go_wp2
    refine bodyPost_ret (v := .tuple #[.agg #[.slice A1 (hdR PR).length c1, .slice A2 (cyR PR).length c2, .slice (some ⟨w1.heap.size, 0, none⟩) (cyR PR).length (cyR PR).length, .slice none 0 0, .bool false], .int .i64 PC]) (by simp [results, Try.results38, go_sem, s0, s1, s2, s3, s4]; done) rfl (HF.out _ A1 c1 A2 c2 _ _ ?_ ?_ ?_ ?_)
    · refine Wr.rd (B := w.heap.size + 2) ?_
      iterate 5 (refine Wr.setLow ?_ (by simp) _)
      exact HW1.out
    · refine Wr.rd (B := w.heap.size + 2) ?_
      iterate 5 (refine Wr.setLow ?_ (by simp) _)
      exact HW2.out
    · refine Wr.rd (B := w.heap.size + 2) ?_
      iterate 5 (refine Wr.setLow ?_ (by simp) _)
      exact HM.out.more hz2
    · iterate 5 (refine ext_set ?_ (by simp) _)
      exact HB2.out
end Go.Proofs.Ytkimmahmbacjpaa

/- Notes as sources of terms: the reference's walk. No condition but those that each theorem names. -/
namespace Go.Proofs.Ytkimmahmbacjpaa
open Go.RowKit Go.Sort Go.Maps Go.WideMaps

def RetSr (w : World) (x : Nt) (e : Ending) (w' : World) : Prop :=
  ∃ H a ca P b cb G c cc, e = .returned (.tuple #[souV H a ca P b cb G c cc, .int .i64 (ntCd x)]) ∧ (ntCd x = 0 → a = (ntSo x).hd.length ∧ b = (ntSo x).pd.length ∧ c = (ntSo x).gr.length ∧ RdSo w' w'.heap.size H P G (ntSo x)) ∧ Below w.heap.size w w'
theorem RetSr.fin_ {w w' : World} {x : Nt} {A : Option Addr} {n c : Nat} {xs : List Int} (h1 : ntSo x = ⟨xs, [], []⟩) (h2 : ntCd x = 0) (hn : xs.length = n) (hw : Rd (Value.int .i64) w' w'.heap.size A xs) (hb : Below w.heap.size w w') : RetSr w x (.returned (.tuple #[souV A n c none 0 0 none 0 0, .int .i64 0])) w' := by
  subst hn
  refine ⟨A, xs.length, c, none, 0, 0, none, 0, 0, by rw [h2], fun _ => ?_, hb⟩
  rw [h1]
  exact ⟨rfl, rfl, rfl, hw, Rd.nil_, Rd.nil_⟩
set_option maxRecDepth 100000 in
set_option maxHeartbeats 4000000 in
theorem l27Source_any (x : Nt) (b o : Nat) (T : Option Addr) (c : Nat) (w : World) (hx : RdT w w.heap.size T c x.terms) (ha : NtAt w b o x T c) (hok : ntOk x = true) :
    Calls Try.prog 42 #[.pointer (some ⟨b, o, none⟩)] w (RetSr w x) := by
  obtain ⟨x0, x1, x2, x3, x4, x5, x6, x7⟩ := ha
  have hbl : b < w.heap.size := World.block_lt_of_cell? w _ x1
  have y : ∀ j v, w.cell? ⟨b, j, none⟩ = some v → (w.alloc (.cells #[.slice none 0 0, .slice none 0 0, .slice none 0 0] 72)).cell? ⟨b, j, none⟩ = some v := fun j v h => ((ext1 w _).cell (p := ⟨b, j, none⟩) hbl).trans h
  have y1 := y _ _ x1
  have y2 := y _ _ x2
  have y3 := y _ _ x3
  have y4 := y _ _ x4
  have y5 := y _ _ x5
  have y6 := y _ _ x6
  have y7 := y _ _ x7
  clear y x0 x1 x2 x3 x4 x5 x6 x7
  rcases nt_kinds hok with ⟨h1, h2⟩ | ⟨h1, h2⟩ | ⟨h1, h2⟩
  · obtain ⟨d1, d2, n1, n2, _⟩ := fracOk_true.1 h2
    have HE := Lib.hid (fun W : World => l03Terms_any x.num x.den W n1 n2 d1 d2)
    have HF : Hid (∀ (w' : World) (A : Option Addr) (n c : Nat), (termsOf x.num x.den).length = n → Rd (Value.int .i64) w' w'.heap.size A (termsOf x.num x.den) → Below w.heap.size w w' → RetSr w x (.returned (.tuple #[souV A n c none 0 0 none 0 0, .int .i64 0])) w') := fun w' A n c hn hw hb =>
      RetSr.fin_ (by rw [ntSo, if_pos h1]) (by rw [ntCd, if_pos h1]) hn hw hb
    have e1 : (x.kind == 1) = true := by simpa using h1
    clear hx hok h1 h2 d1 d2 n1 n2
    unfold souV fracV at *
    go_enter Try.func42, Try.ntmps42
    go_wp2_with fail
    refine (HE.out _).mono ?_
    rintro e w1 ⟨A1, c1, rfl, hw1, hb1⟩
    obtain ⟨hc1, hf1⟩ := bcell hb1
    have hy1 := hb1.size
    (try simp at hy1)
    have hz0 : w.heap.size < w1.heap.size := by omega
    have HB1 := Lib.hid (ext_trans (ext1 w (.cells #[.slice none 0 0, .slice none 0 0, .slice none 0 0] 72)) hb1)
    have r : ∀ j v, [Value.slice none 0 0, .slice none 0 0, .slice none 0 0][j]? = some v → w1.cell? ⟨w.heap.size, j, none⟩ = some v := fun j v hv => by
      rw [hc1 _ _ (by simp), cell_one, ← Array.getElem?_toList]
      exact hv
    have r0 := r 0 _ rfl
    have r1 := r 1 _ rfl
    have r2 := r 2 _ rfl
    clear r
    have HW : Hid (Wr (Value.int .i64) w1 (w.heap.size + 1) A1 (termsOf x.num x.den)) := by
      have h := hw1.more (B' := w.heap.size + 1) (by simp)
      exact h
    clear hw1
    go_wp2
    refine bodyPost_ret (v := .tuple #[.agg #[.slice A1 (termsOf x.num x.den).length c1, .slice none 0 0, .slice none 0 0], .int .i64 0]) (by simp [results, Try.results42, go_sem, r0, r1, r2]; done) rfl (HF.out _ A1 _ c1 rfl ?_ ?_)
    · refine Wr.rd (B := w.heap.size + 1) ?_
      iterate 3 (refine Wr.setLow ?_ (by simp) _)
      exact HW.out
    · iterate 3 (refine ext_set ?_ (by simp) _)
      exact HB1.out
  · obtain ⟨t1, t2, t3⟩ := termsB_bd h2
    have HE : Hid (∀ W : World, Below w.heap.size w W → Calls Try.prog 78 #[.slice T x.terms.length c] W (RetCap W (shT x.terms))) := fun W hb => l03Short_any T c x.terms W (hx.next hb).1 (by omega) hx.2 (fun y hy => by have := t3 y hy; omega)
    have HF : Hid (∀ (w' : World) (A : Option Addr) (n c : Nat), (shT x.terms).length = n → Rd (Value.int .i64) w' w'.heap.size A (shT x.terms) → Below w.heap.size w w' → RetSr w x (.returned (.tuple #[souV A n c none 0 0 none 0 0, .int .i64 0])) w') := fun w' A n c hn hw hb =>
      RetSr.fin_ (by rw [ntSo, if_neg (by omega), if_pos h1]) (by rw [ntCd, if_neg (by omega), if_pos h1]) hn hw hb
    have e1 : (x.kind == 1) = false := by simp; omega
    have e2 : (x.kind == 2) = true := by simpa using h1
    clear hx hok h1 h2 t1 t2 t3
    unfold souV at *
    go_enter Try.func42, Try.ntmps42
    go_wp2_with fail
    refine (HE.out _ (ext1 _ _)).mono ?_
    rintro e w1 ⟨A1, c1, rfl, hw1, _, hb1⟩
    obtain ⟨hc1, hf1⟩ := bcell hb1
    have hy1 := hb1.size
    (try simp at hy1)
    have hz0 : w.heap.size < w1.heap.size := by omega
    have HB1 := Lib.hid (ext_trans (ext1 w (.cells #[.slice none 0 0, .slice none 0 0, .slice none 0 0] 72)) hb1)
    have r : ∀ j v, [Value.slice none 0 0, .slice none 0 0, .slice none 0 0][j]? = some v → w1.cell? ⟨w.heap.size, j, none⟩ = some v := fun j v hv => by
      rw [hc1 _ _ (by simp), cell_one, ← Array.getElem?_toList]
      exact hv
    have r0 := r 0 _ rfl
    have r1 := r 1 _ rfl
    have r2 := r 2 _ rfl
    clear r
    have HW : Hid (Wr (Value.int .i64) w1 (w.heap.size + 1) A1 (shT x.terms)) := by
      have h := hw1.more (B' := w.heap.size + 1) (by simp)
      exact h
    clear hw1
    go_wp2
    refine bodyPost_ret (v := .tuple #[.agg #[.slice A1 (shT x.terms).length c1, .slice none 0 0, .slice none 0 0], .int .i64 0]) (by simp [results, Try.results42, go_sem, r0, r1, r2]; done) rfl (HF.out _ A1 _ c1 rfl ?_ ?_)
    · refine Wr.rd (B := w.heap.size + 1) ?_
      iterate 3 (refine Wr.setLow ?_ (by simp) _)
      exact HW.out
    · iterate 3 (refine ext_set ?_ (by simp) _)
      exact HB1.out
  · obtain ⟨i0, hi, hz0', hz1', hz2'⟩ := info_parts info64
    have HE := Lib.hid (fun W : World => l08Code_cap x.sp x.sd x.sq W)
    have k1 : ntSo x = ⟨hdR (pdR (ntSd x)), cyR (pdR (ntSd x)), List.replicate (cyR (pdR (ntSd x))).length 0⟩ := by rw [ntSo, if_neg (by omega), if_neg (by omega)]
    have k2 : ntCd x = pdC (ntSd x) := by rw [ntCd, if_neg (by omega), if_neg (by omega)]
    have e1 : (x.kind == 1) = false := by simp; omega
    have e2 : (x.kind == 2) = false := by simp; omega
    have HSD : Hid (ntSd x = (x.sp, x.sd, x.sq)) := rfl
    rw [← HSD.out] at HE
    cases hR : pdR (ntSd x) with
    | none =>
      have hc0 := pdR_none hR
      have e3 : (pdC (ntSd x) != 0) = true := by simpa using hc0
      have HF : Hid (∀ w' : World, Below w.heap.size w w' → RetSr w x (.returned (.tuple #[souV none 0 0 none 0 0 none 0 0, .int .i64 (pdC (ntSd x))])) w') := fun w' hb => ⟨none, 0, 0, none, 0, 0, none, 0, 0, by rw [k2], fun h => absurd (k2.symm.trans h) hc0, hb⟩
      clear hx hok h1 h2 hi HSD k1 k2 hc0 hR
      unfold RetCoC at HE
      generalize pdC (ntSd x) = PC at *
      unfold souV surdV at *
      go_enter Try.func42, Try.ntmps42
      go_wp2_with fail
      refine (HE.out _).mono ?_
      rintro e w1 ⟨g, rfl, hb1, _⟩
      obtain ⟨hc1, hf1⟩ := bcell hb1
      have hy1 := hb1.size
      (try simp at hy1)
      have hz0 : w.heap.size < w1.heap.size := by omega
      have HB1 := Lib.hid (ext_trans (ext1 w (.cells #[.slice none 0 0, .slice none 0 0, .slice none 0 0] 72)) hb1)
      have r : ∀ j v, [Value.slice none 0 0, .slice none 0 0, .slice none 0 0][j]? = some v → w1.cell? ⟨w.heap.size, j, none⟩ = some v := fun j v hv => by
        rw [hc1 _ _ (by simp), cell_one, ← Array.getElem?_toList]
        exact hv
      have r0 := r 0 _ rfl
      have r1 := r 1 _ rfl
      have r2 := r 2 _ rfl
      clear r
      go_wp2
      refine bodyPost_ret (v := .tuple #[.agg #[.slice none 0 0, .slice none 0 0, .slice none 0 0], .int .i64 PC]) (by simp [results, Try.results42, go_sem, r0, r1, r2]; done) rfl (HF.out _ ?_)
      iterate 3 (refine ext_set ?_ (by simp) _)
      exact HB1.out
    | some R =>
      obtain ⟨L, i⟩ := R
      obtain ⟨_, _, hpc, hi1, hi2⟩ := pdR_facts hR
      have htm := pd_tmB hR
      have HF : Hid (∀ (w' : World) (A1 : Option Addr) (c1 : Nat) (A2 : Option Addr) (c2 : Nat) (A3 : Option Addr) (c3 : Nat), Rd (Value.int .i64) w' w'.heap.size A1 (headOf (L, i)) → Rd (Value.int .i64) w' w'.heap.size A2 (cycOf (L, i)) → Rd (Value.int .i64) w' w'.heap.size A3 (List.replicate (L.length - i) 0) → Below w.heap.size w w' → RetSr w x (.returned (.tuple #[souV A1 i c1 A2 (L.length - i) c2 A3 (L.length - i) c3, .int .i64 0])) w') := fun w' A1 c1 A2 c2 A3 c3 ha hb hc hbel => by
        have l1 : (headOf (L, i)).length = i := by simp [headOf]; omega
        have l2 : (cycOf (L, i)).length = L.length - i := by simp [cycOf]
        have k3 : ntSo x = ⟨headOf (L, i), cycOf (L, i), List.replicate (L.length - i) 0⟩ := by
          rw [k1, hR]
          show (⟨headOf (L, i), cycOf (L, i), List.replicate (cycOf (L, i)).length 0⟩ : So) = _
          rw [l2]
        refine ⟨A1, i, c1, A2, _, c2, A3, _, c3, by rw [k2, hpc], fun _ => ?_, hbel⟩
        rw [k3]
        exact ⟨l1.symm, l2.symm, by simp, ha, hb, hc⟩
      rw [hR, hpc] at HE
      have l1 : (headOf (L, i)).length = i := by simp [headOf]; omega
      have l2 : (cycOf (L, i)).length = L.length - i := by simp [cycOf]
      have HL := Lib.hid (And.intro l1 l2)
      have HMK : Hid (∀ W : World, (Instr.makeSlice 32 (.int .i64 ((L.length - i : Nat) : Int)) (.int .i64 ((L.length - i : Nat) : Int))).run Try.prog W = .ok (.slice (some ⟨W.heap.size, 0, none⟩) (L.length - i) (L.length - i)) (W.alloc (.cells (madeCells #[.int .i64 0] (L.length - i)) 2))) := fun W => by
        have h := run_make (P := Try.prog) W 32 2 i0 _ Try.underlying32 hi hz0' .i64 .i64 ((L.length - i : Nat) : Int) ((L.length - i : Nat) : Int) (by omega) (by omega) (by rw [hz2']; omega) (by omega)
        rw [hz1'] at h
        simpa [Value.cells] using h
      clear hx hok h1 h2 hi HSD k1 k2 hR hpc htm l1 l2
      unfold RetCoC at HE
      unfold souV surdV at *
      go_enter Try.func42, Try.ntmps42
      go_wp2_with fail
      refine (HE.out _).mono ?_
      rintro e w1 ⟨g, rfl, hb1, hwk⟩
      obtain ⟨v0, A0, c0, hbx, hgb, hwr, hlc, hcm⟩ := hwk L i rfl
      obtain ⟨b0, off, rfl, hb00, hbl0, hcx, hfx⟩ := hwr (by simp; omega)
      have hg1 : w.heap.size + 1 ≤ g := by simpa using hgb
      have HRL : Hid (∀ W : World, Below w1.heap.size w1 W → ∀ j t, (L.map flS)[j]? = some t → W.cell? ⟨b0, off + j, none⟩ = some (.int .i64 t)) := fun W h j t ht => (h.cell (p := ⟨b0, off + j, none⟩) hbl0).trans (hcx j t ht)
      have HO1 : Hid (∀ W : World, Below w1.heap.size w1 W → Calls Try.prog 80 #[.slice (some ⟨b0, off, none⟩) i c0] W (RetCap W (headOf (L, i)))) := fun W h => by
        have k := l00Own_any (some ⟨b0, off, none⟩) c0 (headOf (L, i)) W (fun _ => ⟨b0, off, rfl, Nat.lt_of_lt_of_le hbl0 h.size, fun j t ht => HRL.out W h j t (by
          unfold headOf at ht
          rw [List.map_take, List.getElem?_take] at ht
          split at ht
          · exact ht
          · cases ht)⟩) (by rw [HL.out.1]; omega)
        rwa [HL.out.1] at k
      have HO2 : Hid (∀ W : World, Below w1.heap.size w1 W → Calls Try.prog 80 #[.slice (some ⟨b0, off + i, none⟩) (L.length - i) (c0 - i)] W (RetCap W (cycOf (L, i)))) := fun W h => by
        have k := l00Own_any (some ⟨b0, off + i, none⟩) (c0 - i) (cycOf (L, i)) W (fun _ => ⟨b0, off + i, rfl, Nat.lt_of_lt_of_le hbl0 h.size, fun j t ht => by
          rw [show off + i + j = off + (i + j) by omega]
          exact HRL.out W h (i + j) t (by
            unfold cycOf at ht
            rw [List.map_drop, List.getElem?_drop] at ht
            exact ht)⟩) (by rw [HL.out.2]; omega)
        rwa [HL.out.2] at k
      have HBX := Lib.hid hbx
      have HCK : Hid (∀ W : World, Below w1.heap.size w1 W → W.cell? ⟨g, 1, none⟩ = some (.slice (some ⟨b0, off, none⟩) L.length c0) ∧ W.cell? ⟨g, 2, none⟩ = some (.int .i64 (i : Int))) := fun W h => ⟨(HBX.out.next h).at 1 _ rfl, (HBX.out.next h).at 2 _ rfl⟩
      clear hwk hcx hfx hwr hbx HE
      obtain ⟨hc1, hf1⟩ := bcell hb1
      have hy1 := hb1.size
      (try simp at hy1)
      have hz0 : w.heap.size < w1.heap.size := by omega
      have HB1 := Lib.hid (ext_trans (ext1 w (.cells #[.slice none 0 0, .slice none 0 0, .slice none 0 0] 72)) hb1)
      have r : ∀ j v, [Value.slice none 0 0, .slice none 0 0, .slice none 0 0][j]? = some v → w1.cell? ⟨w.heap.size, j, none⟩ = some v := fun j v hv => by
        rw [hc1 _ _ (by simp), cell_one, ← Array.getElem?_toList]
        exact hv
      have r0 := r 0 _ rfl
      have r1 := r 1 _ rfl
      have r2 := r 2 _ rfl
      clear r
      have j0 : (0 : Int) ≤ (i : Int) := by omega
      have j1 : (i : Int) ≤ (L.length : Int) := by omega
      have j2 : (L.length : Int) ≤ (c0 : Int) := by omega
      have j3 : (i : Int) ≤ (c0 : Int) := by omega
      have j4 : ¬ (c0 - i = 0) := by omega
      have j5 : i ≤ L.length := by omega
      have j6 : i ≤ c0 := by omega
      unfold RetCap at HO1 HO2
      rw [HL.out.1] at HO1
      rw [HL.out.2] at HO2
      go_upto_region 9 with fail
      go_cut [6] (fun v wx => ∃ (g6 : Nat) (A1 : Option Addr) (c1 : Nat) (A2 : Option Addr) (c2 : Nat), v = .pointer (some ⟨g6, 0, none⟩) ∧ BoxV g6 [.slice A1 i c1, .slice A2 (L.length - i) c2, .slice none 0 0] wx ∧ Hid (∀ (ob : Obj) (u : Value), Wr (Value.int .i64) ((wx.alloc ob).setCell ⟨g6, 2, none⟩ u) (w.heap.size + 1) A1 (headOf (L, i))) ∧ Hid (∀ (ob : Obj) (u : Value), Wr (Value.int .i64) ((wx.alloc ob).setCell ⟨g6, 2, none⟩ u) (w.heap.size + 1) A2 (cycOf (L, i))) ∧ Below w1.heap.size w1 wx ∧ w1.heap.size ≤ g6)
      case first =>
        clear r0 r1 r2 hc1 hf1
        go_region_held3 (fun w' => w'.cell? ⟨g, 1, none⟩ = some (.slice (some ⟨b0, off, none⟩) L.length c0) ∧ w'.cell? ⟨g, 2, none⟩ = some (.int .i64 (i : Int)))
          (exact HCK.out _ (by repeat (first | exact Below.refl _ _ | assumption | refine ext_set ?_ (by simp <;> omega) _ | refine ext_alloc ?_ _ | refine ext_drew ?_ | refine ext_trans ?_ (by assumption))))
          (first | (go_at_call 80; (with_reducible refine (HO1.out _ (by repeat (first | exact Below.refl _ _ | assumption | refine ext_set ?_ (by simp <;> omega) _ | refine ext_alloc ?_ _ | refine ext_drew ?_ | refine ext_trans ?_ (by assumption)))).mono ?_); rintro e w5 ⟨A5, c5, rfl, hw5, _, hb5⟩; have hy5 := hb5.size; (try simp at hy5); (first | have m50 := (hb5.cell (p := ⟨w1.heap.size, 0, none⟩) (by simp)).trans (cell_one _ _ _ _) | skip); (first | have n50 := (hb5.frozen (p := ⟨w1.heap.size, 0, none⟩) (by simp)).trans (World.frozen?_alloc_at _ _ _ _ rfl) | skip); (first | have m51 := (hb5.cell (p := ⟨w1.heap.size, 1, none⟩) (by simp)).trans (cell_one _ _ _ _) | skip); (first | have n51 := (hb5.frozen (p := ⟨w1.heap.size, 1, none⟩) (by simp)).trans (World.frozen?_alloc_at _ _ _ _ rfl) | skip); (first | have m52 := (hb5.cell (p := ⟨w1.heap.size, 2, none⟩) (by simp)).trans (cell_one _ _ _ _) | skip); (first | have n52 := (hb5.frozen (p := ⟨w1.heap.size, 2, none⟩) (by simp)).trans (World.frozen?_alloc_at _ _ _ _ rfl) | skip)) | (go_at_call 80; (with_reducible refine (HO2.out _ (by repeat (first | exact Below.refl _ _ | assumption | refine ext_set ?_ (by simp <;> omega) _ | refine ext_alloc ?_ _ | refine ext_drew ?_ | refine ext_trans ?_ (by assumption)))).mono ?_); rintro e w6 ⟨A6, c6, rfl, hw6, _, hb6⟩; have hy6 := hb6.size; (try simp at hy6); (first | have m60 := (hb6.cell (p := ⟨w1.heap.size, 0, none⟩) (by show w1.heap.size < _; omega)).trans m50 | have m60 := (hb6.cell (p := ⟨w5.heap.size, 0, none⟩) (by simp)).trans (cell_one _ _ _ _) | skip); (first | have n60 := (hb6.frozen (p := ⟨w1.heap.size, 0, none⟩) (by show w1.heap.size < _; omega)).trans n50 | have n60 := (hb6.frozen (p := ⟨w5.heap.size, 0, none⟩) (by simp)).trans (World.frozen?_alloc_at _ _ _ _ rfl) | skip); (first | have m61 := (hb6.cell (p := ⟨w1.heap.size, 1, none⟩) (by show w1.heap.size < _; omega)).trans m51 | have m61 := (hb6.cell (p := ⟨w5.heap.size, 1, none⟩) (by simp)).trans (cell_one _ _ _ _) | skip); (first | have n61 := (hb6.frozen (p := ⟨w1.heap.size, 1, none⟩) (by show w1.heap.size < _; omega)).trans n51 | have n61 := (hb6.frozen (p := ⟨w5.heap.size, 1, none⟩) (by simp)).trans (World.frozen?_alloc_at _ _ _ _ rfl) | skip); (first | have m62 := (hb6.cell (p := ⟨w1.heap.size, 2, none⟩) (by show w1.heap.size < _; omega)).trans m52 | have m62 := (hb6.cell (p := ⟨w5.heap.size, 2, none⟩) (by simp)).trans (cell_one _ _ _ _) | skip); (first | have n62 := (hb6.frozen (p := ⟨w1.heap.size, 2, none⟩) (by show w1.heap.size < _; omega)).trans n52 | have n62 := (hb6.frozen (p := ⟨w5.heap.size, 2, none⟩) (by simp)).trans (World.frozen?_alloc_at _ _ _ _ rfl) | skip)))
        all_goals go_wp2_with fail
        all_goals go_meet
        all_goals first
          | exact ⟨w6.heap.size, A5, c5, A6, c6, rfl, BoxV.new w6 #[.slice A5 i c5, .slice A6 (L.length - i) c6, .slice none 0 0] _, fun ob u => ((Wr.below hw5 (ext_set (ext_alloc (ext_alloc hb6 _) ob) (by show w5.heap.size ≤ w6.heap.size; omega) u)).more (by simp; omega)), fun ob u => ((Wr.below hw6 (ext_set (ext_alloc (ext1 _ _) ob) (by exact Nat.le_refl _) u)).more (by omega)), ext_alloc (ext_trans (ext_trans (ext_drew (Below.refl _ _)) hb5) hb6) _, by omega⟩
          | exact ⟨w5.heap.size, A5, c5, A6, c6, rfl, ((((BoxV.new w5 #[.slice none 0 0, .slice none 0 0, .slice none 0 0] _).next hb6).set 0 _ (by simp)).set 1 _ (by simp)).set 2 _ (by simp), fun ob u => ((Wr.below hw5 (ext_set (ext_alloc (ext_set (ext_set (ext_set (ext_trans (ext1 _ _) hb6) (by exact Nat.le_refl _) _) (by exact Nat.le_refl _) _) (by exact Nat.le_refl _) _) ob) (by exact Nat.le_refl _) u)).more (by simp; omega)), fun ob u => ((((((hw6.setLow (by simp) _).setLow (by simp) _).setLow (by simp) _).below (ext1 _ ob)).setLow (by simp) u).more (by simp; omega)), ext_set (ext_set (ext_set (ext_trans (ext_alloc (ext_trans (ext_drew (Below.refl _ _)) hb5) _) hb6) (by show w1.heap.size ≤ w5.heap.size; omega) _) (by show w1.heap.size ≤ w5.heap.size; omega) _) (by show w1.heap.size ≤ w5.heap.size; omega) _, by omega⟩
          | exact ⟨w1.heap.size, A5, c5, A6, c6, rfl, (((((BoxV.new w1.drew #[.slice none 0 0, .slice none 0 0, .slice none 0 0] _).next hb5).next hb6).set 0 _ (by simp)).set 1 _ (by simp)).set 2 _ (by simp), fun ob u => (((((((hw5.below hb6).setLow (by simp) _).setLow (by simp) _).setLow (by simp) _).below (ext1 _ ob)).setLow (by simp) u).more (by simp; omega)), fun ob u => ((((((hw6.setLow (by show w1.heap.size < w5.heap.size; omega) _).setLow (by show w1.heap.size < w5.heap.size; omega) _).setLow (by show w1.heap.size < w5.heap.size; omega) _).below (ext1 _ ob)).setLow (by show w1.heap.size < w5.heap.size; omega) u).more (by omega)), ext_set (ext_set (ext_set (ext_trans (ext_trans (ext_alloc (ext_drew (Below.refl _ _)) _) hb5) hb6) (by exact Nat.le_refl _) _) (by exact Nat.le_refl _) _) (by exact Nat.le_refl _) _, Nat.le_refl _⟩
      case rest =>
        obtain ⟨g6, A1, c1, A2, c2, rfl, hB6, HW1, HW2, hb6, hg6⟩ := hcut
        generalize L.length - i = m at *
        have HR1 : BoxV w.heap.size [.slice none 0 0, .slice none 0 0, .slice none 0 0] w1 := (BoxV.new w #[.slice none 0 0, .slice none 0 0, .slice none 0 0] 72).next hb1
        have HM := Lib.hid (made_wr wc m 2)
        have HB2 := Lib.hid (ext_alloc (ext_trans HB1.out hb6) (.cells (madeCells #[.int .i64 0] m) 2))
        have hR2 := (HR1.next hb6).next (ext1 wc (.cells (madeCells #[.int .i64 0] m) 2))
        have hG2 := hB6.next (ext1 wc (.cells (madeCells #[.int .i64 0] m) 2))
        have HW1 := Lib.hid (HW1.out (.cells (madeCells #[.int .i64 0] m) 2))
        have HW2 := Lib.hid (HW2.out (.cells (madeCells #[.int .i64 0] m) 2))
        have hzw : w1.heap.size ≤ wc.heap.size := hb6.size
        have hgl : g6 < wc.heap.size := hB6.lt
        have z1 := hB6.at 1 _ rfl
        have s0 := hG2.at 0 _ rfl
        have s1 := hG2.at 1 _ rfl
        have s2 := hG2.at 2 _ rfl
        have f2 := hG2.f 2
        have r0 := hR2.at 0 _ rfl
        have r1 := hR2.at 1 _ rfl
        have r2 := hR2.at 2 _ rfl
        have q0 := hR2.f 0
        have q1 := hR2.f 1
        have q2 := hR2.f 2
        have hne : ¬ (g6 = w.heap.size) := by omega
        have hne' : ¬ (w.heap.size = g6) := by omega
        have hmk := HMK.out wc
        clear HMK hG2 hR2 HR1 hB6 hc1 hf1
        generalize w1.heap.size = n1 at *
        generalize wc.alloc (.cells (madeCells #[.int .i64 0] m) 2) = W2 at *
        go_wp2
        refine bodyPost_ret (v := .tuple #[.agg #[.slice A1 i c1, .slice A2 m c2, .slice (some ⟨wc.heap.size, 0, none⟩) m m], .int .i64 0]) (by simp [results, Try.results42, go_sem, r0, r1, r2]; done) rfl (HF.out _ A1 c1 A2 c2 _ _ ?_ ?_ ?_ ?_)
        · refine Wr.rd (B := w.heap.size + 1) ?_
          iterate 3 (refine Wr.setLow ?_ (by simp) _)
          exact HW1.out _
        · refine Wr.rd (B := w.heap.size + 1) ?_
          iterate 3 (refine Wr.setLow ?_ (by simp) _)
          exact HW2.out _
        · refine Wr.rd (B := w.heap.size + 1) ?_
          iterate 3 (refine Wr.setLow ?_ (by simp) _)
          exact (HM.out.setLow (by exact hgl) _).more (by omega)
        · iterate 3 (refine ext_set ?_ (by simp) _)
          exact ext_set HB2.out (by show w.heap.size ≤ g6; omega) _
end Go.Proofs.Ytkimmahmbacjpaa
