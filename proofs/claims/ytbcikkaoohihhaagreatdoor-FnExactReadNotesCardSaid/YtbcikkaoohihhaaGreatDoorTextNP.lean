/- The text of a notebook: the plain law. No condition but those that each theorem names. -/
import Derived.Test.YtbcikkaoohihhaaGreatDoorTextLW
import Derived.Test.YtbcikkaoohihhaaGreatDoorPackP
namespace Go.Proofs.YtbcikkaoohihhaaGreatDoor
open Go.RowKit Go.Sort

/-- The text of notes. -/
def ntsB (xs : List Nt) : ByteArray := if validNt xs = true then ntsO xs xs.length else ⟨#[]⟩
theorem byI_app (a b : ByteArray) : byI (a ++ b) = byI a ++ byI b := by
  unfold byI
  simp [ByteArray.data_append]
theorem byS_byI (s : ByteArray) : byS (byI s) = s := by
  apply byI_byS_inj
where
  byI_byS_inj : byS (byI s) = s := by
    unfold byS byI
    cases s with | mk a =>
    simp only [List.map_map]
    congr 1
    have : (fun n : Int => UInt8.ofNat n.toNat) ∘ (fun b : UInt8 => (b.toNat : Int)) = id := by
      funext b
      simp
    rw [this]
    simp
theorem ntKnd {x : Nt} (h : ntOk x = true) : (x.kind = 1 ∧ fracOk x.num x.den = true) ∨ (x.kind = 2 ∧ termsB x.terms = true) ∨ (x.kind = 3 ∧ surdB x.sp x.sd x.sq = true) := by
  unfold ntOk at h
  rw [Bool.and_eq_true] at h
  obtain ⟨_, h⟩ := h
  split at h
  · rename_i h1; rw [Bool.and_eq_true] at h; exact .inl ⟨h1, h.1⟩
  · split at h
    · rename_i h1; rw [Bool.and_eq_true] at h; exact .inr (.inl ⟨h1, h.1⟩)
    · split at h
      · rename_i h1; rw [Bool.and_eq_true] at h; exact .inr (.inr ⟨h1, h.1⟩)
      · cases h
theorem termsAllBd : ∀ (xs : List Int) (i : Nat), termsAll i xs = true → ∀ x ∈ xs, -1000000000 ≤ x ∧ x ≤ 1000000000
  | [], _, _, x, hx => by cases hx
  | y :: ys, i, h, x, hx => by
    unfold termsAll at h
    rw [Bool.and_eq_true] at h
    rcases List.mem_cons.1 hx with rfl | hx
    · have h1 := h.1
      unfold tmB at h1
      have := inR_true.1 h1
      split at this <;> omega
    · exact termsAllBd ys (i + 1) h.2 x hx
theorem termsBBd {xs : List Int} (h : termsB xs = true) : xs.length ≤ 60 ∧ 1 ≤ xs.length ∧ ∀ x ∈ xs, -1000000000 ≤ x ∧ x ≤ 1000000000 := by
  unfold termsB at h
  rw [Bool.and_eq_true] at h
  have := inR_true.1 h.2
  exact ⟨by omega, by omega, termsAllBd xs 0 h.1⟩
theorem ntBody_size {x : Nt} (h : ntOk x = true) : (ntBody x).size ≤ 1401 := by
  have lz : ({ data := #[93] } : ByteArray).size = 1 := rfl
  unfold ntBody
  rcases ntKnd h with ⟨hk, h1⟩ | ⟨hk, h1⟩ | ⟨hk, h1⟩
  · rw [if_pos hk]
    obtain ⟨d1, d2, n1, n2, _⟩ := fracOk_true.1 h1
    have := frT_size (n := x.num) (d := x.den) (by omega) (by omega) (by omega) (by omega)
    omega
  · rw [if_neg (by omega), if_pos hk]
    obtain ⟨l1, l2, l3⟩ := termsBBd h1
    have := tmO_le l3 l1 x.terms.length (Nat.le_refl _)
    unfold tmT
    rw [appSize]
    omega
  · rw [if_neg (by omega), if_neg (by omega)]
    obtain ⟨⟨d1, d2⟩, _, ⟨p1, p2⟩, ⟨q1, q2⟩, _⟩ := surdB_true.1 h1
    have z0 := decB_size (n := x.sp) (by omega) (by omega)
    have z1 := decB_size (n := x.sd) (by omega) (by omega)
    have z2 := decB_size (n := x.sq) (by omega) (by omega)
    have := (ztS _ _ _ z0 z1 z2).2.2.2.2
    unfold sdT
    omega
theorem ntLine_size {x : Nt} (h : ntOk x = true) : (ntLine x).size ≤ 1500 := by
  have h1 := ntBody_size h
  have h2 := (ntOk_bds h).1
  unfold ntLine
  rw [appSize, appSize, appSize, show ({ data := #[32, 61, 32] } : ByteArray).size = 3 from rfl, show ({ data := #[10] } : ByteArray).size = 1 from rfl]
  omega
theorem ntsO_size {xs : List Nt} (h : ∀ x ∈ xs, ntOk x = true) : ∀ k, (ntsO xs k).size ≤ 1500 * k
  | 0 => Nat.le_refl _
  | k + 1 => by
    have ih := ntsO_size h k
    unfold ntsO
    rw [appSize]
    cases hx : xs[k]? with
    | none => simp only; have : (⟨#[]⟩ : ByteArray).size = 0 := rfl; omega
    | some x => simp only; have := ntLine_size (h x (List.mem_of_getElem? hx)); omega
theorem ntsO_next {xs : List Nt} {k : Nat} {x : Nt} (h : xs[k]? = some x) : ntsO xs (k + 1) = ntsO xs k ++ (((x.name ++ ({ data := #[32, 61, 32] } : ByteArray)) ++ ntBody x) ++ ({ data := #[10] } : ByteArray)) := by
  show ntsO xs k ++ (match xs[k]? with | some x => ntLine x | none => ⟨#[]⟩) = _
  rw [h]; rfl
theorem ztL (a n b : ByteArray) (h1 : a.size ≤ 60000) (h2 : n.size ≤ 12) (h3 : b.size ≤ 1401) : (n ++ ({ data := #[32, 61, 32] } : ByteArray)).size ≤ 100000 ∧ ((n ++ ({ data := #[32, 61, 32] } : ByteArray)) ++ b).size ≤ 100000 ∧ (((n ++ ({ data := #[32, 61, 32] } : ByteArray)) ++ b) ++ ({ data := #[10] } : ByteArray)).size ≤ 100000 ∧ (a ++ (((n ++ ({ data := #[32, 61, 32] } : ByteArray)) ++ b) ++ ({ data := #[10] } : ByteArray))).size ≤ 100000 := by
  have l0 : ({ data := #[32, 61, 32] } : ByteArray).size = 3 := rfl
  have l1 : ({ data := #[10] } : ByteArray).size = 1 := rfl
  simp only [appSize]
  omega
end Go.Proofs.YtbcikkaoohihhaaGreatDoor
