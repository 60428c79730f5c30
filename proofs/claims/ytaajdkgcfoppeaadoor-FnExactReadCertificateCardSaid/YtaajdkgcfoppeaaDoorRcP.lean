/- What a text tells as a certificate: the plain law. No condition but those that each theorem names. -/
import Derived.Test.YtaajdkgcfoppeaaDoorCtxW
import Derived.Test.YtaajdkgcfoppeaaDoorRdsW
namespace Go.Proofs.YtaajdkgcfoppeaaDoor
open Go.RowKit Go.Sort

/-- The index of the first word that is v; -1 if there is none. -/
def ixW (v : ByteArray) : List ByteArray → Nat → Int
  | [], _ => -1
  | x :: xs, i => if v = x then i else ixW v xs (i + 1)
theorem ixW_step {v : ByteArray} {xs : List ByteArray} {k : Nat} {x : ByteArray} (h : xs[k]? = some x) : ixW v (xs.drop k) k = if v = x then (k : Int) else ixW v (xs.drop (k + 1)) (k + 1) := by
  obtain ⟨h1, h2⟩ := List.getElem?_eq_some_iff.1 h
  rw [List.drop_eq_getElem_cons h1, h2]; rfl
theorem ixW_end {v : ByteArray} {xs : List ByteArray} {k : Nat} (h : ¬ k < xs.length) : ixW v (xs.drop k) k = -1 := by
  rw [List.drop_eq_nil_of_le (by omega)]; rfl
theorem ixW_bd (v : ByteArray) : ∀ (xs : List ByteArray) (i : Nat), -1 ≤ ixW v xs i ∧ ixW v xs i < i + xs.length ∧ (0 ≤ ixW v xs i → ∃ j : Nat, ixW v xs i = i + j ∧ xs[j]? = some v)
  | [], i => ⟨by simp [ixW], by simp [ixW]; omega, fun h => by simp [ixW] at h⟩
  | x :: xs, i => by
    obtain ⟨h1, h2, h3⟩ := ixW_bd v xs (i + 1)
    by_cases h : v = x
    · subst h
      simp only [ixW, if_true]
      exact ⟨by omega, by simp; omega, fun _ => ⟨0, by simp, by simp⟩⟩
    · simp only [ixW, if_neg h]
      refine ⟨h1, by simp; omega, fun g => ?_⟩
      obtain ⟨j, e1, e2⟩ := h3 g
      exact ⟨j + 1, by omega, by simpa using e2⟩
/-- The kind that a word tells; 0 if it tells none. -/
def kdW (v : ByteArray) : Int := ixW v ctWords 0 + 1
/-- .. and by another loop. -/
def kdU (v : ByteArray) : Nat → Int
  | 0 => 0
  | k + 1 => if ctWords.getD k ⟨#[]⟩ = v then k + 1 else kdU v k
theorem kdU_all (v : ByteArray) : kdU v 6 = kdW v := by
  have e : ∀ a b : ByteArray, (a = b) = (b = a) := fun a b => propext ⟨Eq.symm, Eq.symm⟩
  by_cases h0 : v = ⟨#[103, 99, 100]⟩
  · subst h0; decide
  by_cases h1 : v = ⟨#[114, 111, 111, 116]⟩
  · subst h1; decide
  by_cases h2 : v = ⟨#[108, 105, 110, 101, 97, 114]⟩
  · subst h2; decide
  by_cases h3 : v = ⟨#[117, 110, 105, 116]⟩
  · subst h3; decide
  by_cases h4 : v = ⟨#[112, 101, 114, 105, 111, 100]⟩
  · subst h4; decide
  by_cases h5 : v = ⟨#[98, 101, 115, 116]⟩
  · subst h5; decide
  simp only [kdW, ixW, ctWords, kdU, List.getD_cons_zero, List.getD_cons_succ, e _ v, h0, h1, h2, h3, h4, h5, if_false]
  rfl
theorem kdW_bd (v : ByteArray) : 0 ≤ kdW v ∧ kdW v ≤ 6 := by
  obtain ⟨h1, h2, _⟩ := ixW_bd v ctWords 0
  have : ctWords.length = 6 := rfl
  unfold kdW
  omega
theorem kdU_bd (v : ByteArray) : ∀ k, 0 ≤ kdU v k ∧ kdU v k ≤ k
  | 0 => by simp [kdU]
  | k + 1 => by
    have := kdU_bd v k
    unfold kdU
    split <;> omega
/-- What words tell as a certificate. -/
def rcW : List ByteArray → Option (Int × List Int)
  | [] => none
  | w :: ws => match numsB ws with
    | none => none
    | some ns => if bdC (kdW w) ns = true then some (kdW w, ns) else none
def rcK (R : Option (Int × List Int)) : Int := match R with | some (k, _) => k | none => 0
def rcX (R : Option (Int × List Int)) : List Int := match R with | some (_, xs) => xs | none => []
theorem rcW_none {w : ByteArray} {ws : List ByteArray} (h : numsB ws = none) : rcW (w :: ws) = none := by simp [rcW, h]
theorem rcW_ok {w : ByteArray} {ws : List ByteArray} {ns : List Int} (h : numsB ws = some ns) (hb : bdC (kdW w) ns = true) : rcW (w :: ws) = some (kdW w, ns) := by simp [rcW, h, hb]
theorem rcW_bad {w : ByteArray} {ws : List ByteArray} {ns : List Int} (h : numsB ws = some ns) (hb : bdC (kdW w) ns = false) : rcW (w :: ws) = none := by simp [rcW, h, hb]
theorem rcX_bd (ws : List ByteArray) : (rcX (rcW ws)).length ≤ 420 := by
  cases ws with
  | nil => simp [rcW, rcX]
  | cons w ws =>
    cases hn : numsB ws with
    | none => rw [rcW_none hn]; simp [rcX]
    | some ns =>
      cases hb : bdC (kdW w) ns with
      | false => rw [rcW_bad hn hb]; simp [rcX]
      | true =>
        rw [rcW_ok hn hb]
        unfold bdC at hb
        rw [Bool.and_eq_true] at hb
        exact (nbB_all hb.2).1
theorem ctOut_data (d : ByteArray) (xs : List Int) : ∀ k, k ≤ xs.length → (ctOut d xs k).data.toList = d.data.toList ++ (xs.take k).flatMap fun x => 32 :: (decB x).data.toList
  | 0, _ => by simp [ctOut]
  | k + 1, hk => by
    have hx : xs[k]? = some (xs[k]'(by omega)) := List.getElem?_eq_getElem (by omega)
    have e : ∀ a b : ByteArray, (a ++ b).data.toList = a.data.toList ++ b.data.toList := fun a b => by simp [ByteArray.data_append]
    rw [ctOut, e, e, ctOut_data d xs k (by omega), List.take_add_one, hx]
    simp only [List.getD, hx, Option.getD_some, Option.toList_some, List.flatMap_append, List.append_assoc]
    congr 1
    simp
/-- A text that is read is the certificate's text. -/
theorem rc_text {s w : ByteArray} {ws : List ByteArray} {ns : List Int} (hs : spB 32 s = w :: ws) (hn : numsB ws = some ns) (hb : bdC (kdW w) ns = true) : ctB (kdW w) ns = s := by
  unfold ctB
  rw [if_pos hb]
  unfold bdC at hb
  rw [Bool.and_eq_true] at hb
  obtain ⟨k1, k2⟩ := inR_true.1 hb.1
  obtain ⟨_, _, h3⟩ := ixW_bd w ctWords 0
  have hkd : kdW w = ixW w ctWords 0 + 1 := rfl
  obtain ⟨j, e1, e2⟩ := h3 (by omega)
  have hj : (kdW w - 1).toNat = j := by omega
  rw [hj]
  simp only [List.getD, e2, Option.getD_some]
  have hd := ctOut_data w ns ns.length (Nat.le_refl _)
  rw [List.take_of_length_le (Nat.le_refl _)] at hd
  have hj := jn_spA 32 s.data.toList []
  unfold spB at hs
  cases hsp : spA 32 [] s.data.toList with
  | nil => rw [hsp] at hs; cases hs
  | cons p ps =>
    rw [hsp] at hs hj
    simp only [List.map_cons, List.cons.injEq] at hs
    obtain ⟨hs1, hs2⟩ := hs
    simp only [jnA, List.nil_append] at hj
    have ht := nums_text hn
    have : (ctOut w ns ns.length).data.toList = s.data.toList := by
      rw [hd, ← hj, ← hs1]
      congr 1
      have e3 : (ws.flatMap fun x => 32 :: x.data.toList) = ns.flatMap fun x => 32 :: (decB x).data.toList := by
        rw [ht, List.flatMap_map]
      rw [← e3, ← hs2, List.flatMap_map]
    rw [← back_bytes (ctOut w ns ns.length), this, back_bytes]
theorem spB_ne (c : UInt8) (s : ByteArray) : ∃ w ws, spB c s = w :: ws := by
  unfold spB
  cases hsp : spA c [] s.data.toList with
  | nil => exact absurd hsp (spA_ne _ _ _)
  | cons p ps => exact ⟨_, _, rfl⟩
theorem spB_sz {c : UInt8} {s p : ByteArray} (h : p ∈ spB c s) : p.size ≤ s.size := by
  unfold spB at h
  obtain ⟨l, h1, rfl⟩ := List.mem_map.1 h
  have := spA_lt c _ _ l h1
  have hl := size_list s
  show l.toArray.size ≤ _
  simp at this ⊢
  omega
theorem spB_count (c : UInt8) (s : ByteArray) : (spB c s).length ≤ s.size + 1 := by
  rw [spB_len]
  have := Lib.countB_le ⟨#[c]⟩ (Nat.le_refl 1) s.size s (Nat.le_refl _)
  omega
end Go.Proofs.YtaajdkgcfoppeaaDoor
