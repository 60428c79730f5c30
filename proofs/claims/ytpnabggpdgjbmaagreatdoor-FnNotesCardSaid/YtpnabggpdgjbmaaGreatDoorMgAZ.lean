/- Parts of the proof, merged: AdP NbP. No condition but those that each theorem names. -/
import Derived.Test.YtpnabggpdgjbmaaGreatDoorMgAY
import Derived.Test.YtpnabggpdgjbmaaGreatDoorMgAN
import Derived.Test.YtpnabggpdgjbmaaGreatDoorMgAK
import Derived.Test.YtpnabggpdgjbmaaGreatDoorMgAU
namespace Go.Proofs.YtpnabggpdgjbmaaGreatDoor
open Go.RowKit Go.Sort
theorem ltB_tri (a b : ByteArray) : ltB a b = true ∨ a = b ∨ ltB b a = true := by
  by_cases h1 : ltB a b = true
  · exact .inl h1
  · by_cases h2 : a = b
    · exact .inr (.inl h2)
    · right; right
      have ht := bl_total a.toList b.toList
      have hb : (a.toList == b.toList) = false := by
        rw [beq_eq_false_iff_ne]
        exact fun e => h2 (toList_inj e)
      unfold ltB at h1 ⊢
      rw [hb, Bool.or_false] at ht
      rw [Bool.not_eq_true] at h1
      rw [h1] at ht
      simpa using ht.symm
theorem fndN_miss (s : ByteArray) : ∀ (xs : List Nt) (k : Nat), fndN s xs k < 0 → ∀ y ∈ xs, ¬ y.name = s
  | [], _, _, y, hy => by simp at hy
  | x :: xs, k, h, y, hy => by
    rw [fndN] at h
    split at h
    · omega
    · next hn =>
      rcases List.mem_cons.1 hy with rfl | hy
      · exact hn
      · exact fndN_miss s xs (k + 1) h y hy
theorem anK_hi (xs : List Nt) (s : ByteArray) : ∀ (m t : Nat) (y : Nt), anK xs s m ≤ t → t < m → xs[t]? = some y → ltB s y.name = true
  | 0, t, y, _, h, _ => by omega
  | m + 1, t, y, h1, h2, hy => by
    rw [anK] at h1
    split at h1
    · next hl =>
      rcases Nat.lt_or_ge t m with h | h
      · exact anK_hi xs s m t y h1 h hy
      · obtain rfl : t = m := by omega
        rw [getD_nt hy] at hl
        exact hl
    · omega
theorem anK_lo (xs : List Nt) (s : ByteArray) : ∀ (m : Nat), anK xs s m = 0 ∨ ltB s (xs.getD (anK xs s m - 1) default).name = false
  | 0 => .inl rfl
  | m + 1 => by
    rw [anK]
    split
    · exact anK_lo xs s m
    · next h => right; simpa using h
theorem ltB_of {a b : ByteArray} (h : ltB b a = false) (hn : ¬ a = b) : ltB a b = true := by
  rcases ltB_tri a b with h1 | h1 | h1
  · exact h1
  · exact absurd h1 hn
  · rw [h] at h1; cases h1
section
variable {xs : List Nt} {x : Nt}
theorem an_lo (hv : validNt xs = true) (hm : fndN x.name xs 0 < 0) (t : Nat) (y : Nt) (ht : t < anK xs x.name xs.length) (hy : xs[t]? = some y) : ltB y.name x.name = true := by
  have hk := anK_le xs x.name xs.length
  have hz : xs[anK xs x.name xs.length - 1]? = some xs[anK xs x.name xs.length - 1] := List.getElem?_eq_getElem (by omega)
  have h1 := (anK_lo xs x.name xs.length).resolve_left (by omega)
  rw [getD_nt hz] at h1
  have h2 := ltB_of h1 (fndN_miss _ _ _ hm _ (List.getElem_mem _))
  rcases Nat.lt_or_ge t (anK xs x.name xs.length - 1) with h | h
  · exact ltB_trans (validNt_lt hv t y hy (anK xs x.name xs.length - 1 - t - 1) _ (by rw [show t + (anK xs x.name xs.length - 1 - t - 1) + 1 = anK xs x.name xs.length - 1 by omega]; exact hz)) h2
  · obtain rfl : t = anK xs x.name xs.length - 1 := by omega
    rw [hz] at hy
    cases hy
    exact h2
theorem ins_lo {k t : Nat} (ht : t < k) (hk : k ≤ xs.length) : (xs.take k ++ [x] ++ xs.drop k)[t]? = xs[t]? := by
  rw [List.append_assoc, List.getElem?_append_left (by rw [List.length_take]; omega), List.getElem?_take_of_lt ht]
theorem ins_at {k : Nat} (hk : k ≤ xs.length) : (xs.take k ++ [x] ++ xs.drop k)[k]? = some x := by
  rw [List.append_assoc, List.getElem?_append_right (by rw [List.length_take]; omega), List.length_take, Nat.min_eq_left hk, Nat.sub_self]
  rfl
theorem ins_hi {k t : Nat} (ht : k < t) (hk : k ≤ xs.length) : (xs.take k ++ [x] ++ xs.drop k)[t]? = xs[t - 1]? := by
  have hl : (xs.take k ++ [x]).length = k + 1 := by rw [List.length_append, List.length_take, Nat.min_eq_left hk]; rfl
  rw [List.getElem?_append_right (by omega), hl, List.getElem?_drop]
  congr 1
  omega
theorem ins_len {k : Nat} (hk : k ≤ xs.length) : (xs.take k ++ [x] ++ xs.drop k).length = xs.length + 1 := by
  simp only [List.length_append, List.length_take, List.length_drop, List.length_cons, List.length_nil]
  omega
theorem ins_erase {k : Nat} (hk : k ≤ xs.length) : (xs.take k ++ [x] ++ xs.drop k).eraseIdx k = xs := by
  rw [List.append_assoc, List.eraseIdx_append_of_length_le (by rw [List.length_take]; omega), List.length_take, Nat.min_eq_left hk, Nat.sub_self]
  show List.take k xs ++ List.drop k xs = xs
  rw [List.take_append_drop]
/-- What is added is found, and without it the notes are as they were. -/
theorem an_laws (h : anC xs x = 0) : nnC (anX xs x) x.name = 0 ∧ dnX (anX xs x) x.name = xs ∧ (anX xs x)[(fndN x.name (anX xs x) 0).toNat]? = some x ∧ validNt xs = true ∧ ntOk x = true := by
  have hc := h
  unfold anC at hc
  split at hc
  · next hb =>
    rw [Bool.and_eq_true] at hb
    obtain ⟨hv, ho⟩ := hb
    split at hc
    · next hm =>
      split at hc
      · cases hc
      · next h40 =>
        have hl := validNt_len hv
        have hk := anK_le xs x.name xs.length
        have lo := an_lo hv hm
        have hi := anK_hi xs x.name xs.length
        unfold anX
        rw [if_pos h]
        generalize anK xs x.name xs.length = k at *
        have hz : validNt (xs.take k ++ [x] ++ xs.drop k) = true := by
          refine validNt_of (by rw [ins_len hk]; omega) fun j hj => ?_
          rw [ins_len hk] at hj
          rcases Nat.lt_trichotomy j k with g | g | g
          · have hy : xs[j]? = some xs[j] := List.getElem?_eq_getElem (by omega)
            refine okAtX_of (by rw [ins_lo g hk]; exact hy) (validNt_ok hv hy) fun p p0 hp => ?_
            rw [ins_lo (by omega) hk] at hp
            exact validNt_step hv hp (by rw [show j - 1 + 1 = j by omega]; exact hy)
          · subst g
            refine okAtX_of (ins_at hk) ho fun p p0 hp => ?_
            rw [ins_lo (by omega) hk] at hp
            exact lo _ p (by omega) hp
          · have hy : xs[j - 1]? = some xs[j - 1] := List.getElem?_eq_getElem (by omega)
            refine okAtX_of (by rw [ins_hi g hk]; exact hy) (validNt_ok hv hy) fun p p0 hp => ?_
            rcases Nat.eq_or_lt_of_le (show k ≤ j - 1 by omega) with g2 | g2
            · rw [← g2, ins_at hk] at hp
              cases hp
              exact hi (j - 1) _ (by omega) (by omega) hy
            · rw [ins_hi g2 hk] at hp
              exact validNt_step hv hp (by rw [show j - 1 - 1 + 1 = j - 1 by omega]; exact hy)
        have hf : fndN x.name (xs.take k ++ [x] ++ xs.drop k) 0 = (k : Int) := by
          have h1 := fndN_skip (s := x.name) (xs := xs.take k ++ [x] ++ xs.drop k) 0 k (fun t y _ h2 hy he => by
            rw [ins_lo (by omega) hk] at hy
            have := lo t y (by omega) hy
            rw [he, ltB_irr] at this
            cases this) (by rw [ins_len hk]; omega)
          rw [List.drop_zero, Nat.zero_add] at h1
          rw [h1]
          exact fndN_yes (ins_at hk) rfl
        have hn : nnC (xs.take k ++ [x] ++ xs.drop k) x.name = 0 := by
          unfold nnC
          rw [if_pos hz, hf, if_neg (by omega)]
        refine ⟨hn, ?_, ?_, hv, ho⟩
        · unfold dnX
          rw [if_pos hn, hf]
          exact ins_erase hk
        · rw [hf]
          exact ins_at hk
    · cases hc
  · cases hc
end
end Go.Proofs.YtpnabggpdgjbmaaGreatDoor
namespace Go.Proofs.YtpnabggpdgjbmaaGreatDoor
open Go.RowKit Go.Sort
theorem pkL_inj : ∀ (z z' : Nat) (L L' : List Int), pkL z ++ L = pkL z' ++ L' → z = z' ∧ L = L' := by
  intro z
  induction z using Nat.strongRecOn with
  | _ z ih =>
    intro z' L L' h
    by_cases h1 : 128 ≤ z
    · by_cases h2 : 128 ≤ z'
      · rw [pkL_big h1, pkL_big h2, List.cons_append, List.cons_append] at h
        injection h with h3 h4
        obtain ⟨e1, e2⟩ := ih (z / 128) (by omega) (z' / 128) L L' h4
        exact ⟨by omega, e2⟩
      · rw [pkL_big h1, pkL_small h2, List.cons_append, List.cons_append] at h
        injection h with h3 h4
        omega
    · by_cases h2 : 128 ≤ z'
      · rw [pkL_small h1, pkL_big h2, List.cons_append, List.cons_append] at h
        injection h with h3 h4
        omega
      · rw [pkL_small h1, pkL_small h2, List.cons_append, List.cons_append] at h
        injection h with h3 h4
        exact ⟨by omega, h4⟩
theorem pkN_inj {m n : Int} {L L' : List Int} (h : pkL (zigN m) ++ L = pkL (zigN n) ++ L') : m = n ∧ L = L' := by
  obtain ⟨h1, h2⟩ := pkL_inj _ _ _ _ h
  exact ⟨by rw [← unz_zig m, ← unz_zig n, h1], h2⟩
theorem pkA_inj : ∀ (a b : List Int) (L L' : List Int), a.length = b.length → pkA a ++ L = pkA b ++ L' → a = b ∧ L = L'
  | [], [], _, _, _, h => ⟨rfl, h⟩
  | [], _ :: _, _, _, h, _ => by simp at h
  | _ :: _, [], _, _, h, _ => by simp at h
  | m :: a, n :: b, L, L', hl, h => by
    rw [pkA_cons1, pkA_cons1, List.append_assoc, List.append_assoc] at h
    obtain ⟨rfl, h2⟩ := pkN_inj h
    obtain ⟨rfl, h3⟩ := pkA_inj a b L L' (by simpa using hl) h2
    exact ⟨rfl, h3⟩
theorem nuL_inj {x y : Nt} (hk : x.kind = y.kind) (hx : ntOk x = true) {L L' : List Int} (h : pkA (nuL x) ++ L = pkA (nuL y) ++ L') : nuL x = nuL y ∧ L = L' := by
  rcases ntKnd hx with ⟨k, _⟩ | ⟨k, _⟩ | ⟨k, _⟩
  · rw [nu1 k, nu1 (hk ▸ k)] at h ⊢
    exact pkA_inj _ _ _ _ rfl h
  · rw [nu2 k, nu2 (hk ▸ k)] at h ⊢
    have h0 := h
    rw [pkA_cons1, pkA_cons1, List.append_assoc, List.append_assoc] at h0
    have hn := (pkN_inj h0).1
    exact pkA_inj _ _ _ _ (by simp; omega) h
  · rw [nu3 k, nu3 (hk ▸ k)] at h ⊢
    exact pkA_inj _ _ _ _ rfl h
theorem noteB_inj {x y : Nt} (hx : ntOk x = true) (hy : ntOk y = true) {L L' : List Int} (h : noteB x ++ L = noteB y ++ L') : x = y ∧ L = L' := by
  unfold noteB at h
  simp only [List.append_assoc, List.cons_append, List.nil_append] at h
  injection h with h1 h2
  have hs : x.name.size = y.name.size := by omega
  obtain ⟨h3, h4⟩ := List.append_inj h2 (by rw [byI_length, byI_length, hs])
  injection h4 with h5 h6
  obtain ⟨h7, h8⟩ := nuL_inj h5 hx h6
  refine ⟨?_, h8⟩
  have hn := byI_inj h3
  obtain ⟨nm, kd, nu, de, ts, sp, sd, sq⟩ := x
  obtain ⟨nm', kd', nu', de', ts', sp', sd', sq'⟩ := y
  simp only at hn h5
  subst hn h5
  rcases ntKnd hx with ⟨k, _⟩ | ⟨k, _⟩ | ⟨k, _⟩
  · obtain ⟨⟨a1, a2, a3, a4⟩, _⟩ := ntOk_1 hx k
    obtain ⟨⟨b1, b2, b3, b4⟩, _⟩ := ntOk_1 hy k
    rw [nu1 k, nu1 (x := ⟨nm, kd, nu', de', ts', sp', sd', sq'⟩) k] at h7
    simp only [List.cons.injEq] at h7 a1 a2 a3 a4 b1 b2 b3 b4
    obtain ⟨rfl, rfl, _⟩ := h7
    subst a1 a2 a3 a4 b1 b2 b3 b4
    rfl
  · obtain ⟨⟨a1, a2, a3, a4, a5⟩, _⟩ := ntOk_2 hx k
    obtain ⟨⟨b1, b2, b3, b4, b5⟩, _⟩ := ntOk_2 hy k
    rw [nu2 k, nu2 (x := ⟨nm, kd, nu', de', ts', sp', sd', sq'⟩) k] at h7
    simp only [List.cons.injEq] at h7 a1 a2 a3 a4 a5 b1 b2 b3 b4 b5
    obtain ⟨_, rfl⟩ := h7
    subst a1 a2 a3 a4 a5 b1 b2 b3 b4 b5
    rfl
  · obtain ⟨⟨a1, a2, a3⟩, _⟩ := ntOk_3 hx k
    obtain ⟨⟨b1, b2, b3⟩, _⟩ := ntOk_3 hy k
    rw [nu3 k, nu3 (x := ⟨nm, kd, nu', de', ts', sp', sd', sq'⟩) k] at h7
    simp only [List.cons.injEq] at h7 a1 a2 a3 b1 b2 b3
    obtain ⟨rfl, rfl, rfl, _⟩ := h7
    subst a1 a2 a3 b1 b2 b3
    rfl
theorem ntsB_inj : ∀ (xs ys : List Nt) (L L' : List Int), xs.length = ys.length → (∀ x ∈ xs, ntOk x = true) → (∀ y ∈ ys, ntOk y = true) → (xs.map noteB).flatten ++ L = (ys.map noteB).flatten ++ L' → xs = ys
  | [], [], _, _, _, _, _, _ => rfl
  | [], _ :: _, _, _, h, _, _, _ => by simp at h
  | _ :: _, [], _, _, h, _, _, _ => by simp at h
  | x :: xs, y :: ys, L, L', hl, hx, hy, h => by
    simp only [List.map_cons, List.flatten_cons, List.append_assoc] at h
    obtain ⟨rfl, h2⟩ := noteB_inj (hx x (by simp)) (hy y (by simp)) h
    rw [ntsB_inj xs ys L L' (by simpa using hl) (fun z hz => hx z (List.mem_cons_of_mem _ hz)) (fun z hz => hy z (List.mem_cons_of_mem _ hz)) h2]
/-- Two valid notebooks of the same packed bytes are the same. -/
theorem endB_inj {xs ys : List Nt} (hx : validNt xs = true) (hy : validNt ys = true) (h : endB (bookB xs) = endB (bookB ys)) : xs = ys := by
  have h1 := congrArg byI h
  rw [byI_end hx, byI_end hy] at h1
  injection h1 with _ h2
  injection h2 with h3 h4
  exact ntsB_inj xs ys _ _ (by omega) (valid_all hx).2 (valid_all hy).2 h4
end Go.Proofs.YtpnabggpdgjbmaaGreatDoor
