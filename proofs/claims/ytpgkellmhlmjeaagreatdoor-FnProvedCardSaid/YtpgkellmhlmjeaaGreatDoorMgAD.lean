/- Parts of the proof, merged: SplP NameW SqrtP. No condition but those that each theorem names. -/
import Derived.Test.YtpgkellmhlmjeaaGreatDoorMgAC
import Derived.Lib.SplitLaws
import Derived.Lib.ParseIntB
import Derived.Lib.ParseIntBCases
import Derived.Test.YtpgkellmhlmjeaaGreatDoorMgAB
import Derived.Laws.FloatArith
namespace Go.Proofs.YtpgkellmhlmjeaaGreatDoor
open Go.RowKit Go.Sort
/-- A text cut at a byte, behind the part that is begun. -/
def spA (c : UInt8) : List UInt8 → List UInt8 → List (List UInt8)
  | acc, [] => [acc]
  | acc, b :: l => if b = c then acc :: spA c [] l else spA c (acc ++ [b]) l
/-- A text's parts between bytes. -/
def spB (c : UInt8) (s : ByteArray) : List ByteArray := (spA c [] s.data.toList).map fun l => ⟨l.toArray⟩
theorem splitK_spA (c : UInt8) : ∀ l : List UInt8, ∃ h t, Lib.splitK [c] 0 (Lib.count l [c]) l = h :: t ∧ ∀ acc, spA c acc l = (acc ++ h) :: t
  | [] => ⟨[], [], by rw [Lib.count_miss (by simp [Lib.index])]; rfl, fun acc => by simp [spA]⟩
  | b :: l => by
    obtain ⟨h, t, e1, e2⟩ := splitK_spA c l
    by_cases hb : b = c
    · subst hb
      have hix : Lib.index (b :: l) [b] = ((0 : Nat) : Int) := by rw [Lib.index]; simp [List.isPrefixOf]
      refine ⟨[], h :: t, ?_, fun acc => ?_⟩
      · rw [Lib.count_cons_eq, Nat.add_comm, Lib.splitK, hix]
        simp [e1]
      · rw [spA, if_pos rfl, e2]
        simp
    · have hp : ([c] : List UInt8).isPrefixOf (b :: l) = false := by simp [List.isPrefixOf, Ne.symm hb]
      have hix : Lib.index (b :: l) [c] = if Lib.index l [c] == -1 then -1 else Lib.index l [c] + 1 := by rw [Lib.index, hp]; simp
      by_cases hm : Lib.index l [c] = -1
      · rw [Lib.count_miss hm] at e1
        injection e1 with e3 e4
        subst e3 e4
        refine ⟨b :: l, [], ?_, fun acc => ?_⟩
        · rw [Lib.count_cons_ne b c l hb, Lib.count_miss hm]; rfl
        · rw [spA, if_neg hb, e2]; simp
      · have hge := Lib.index_ge l [c]
        obtain ⟨j, hj⟩ : ∃ j : Nat, Lib.index l [c] = j := ⟨(Lib.index l [c]).toNat, by omega⟩
        have hc := Lib.count_hit (sub := [c]) (by simp) hj
        have hix' : Lib.index (b :: l) [c] = ((j + 1 : Nat) : Int) := by rw [hix, if_neg (fun e => hm (beq_iff_eq.1 e)), hj]; omega
        have n1 : ((((j + 1 : Nat) : Int)) == -1) = false := by rw [beq_eq_false_iff_ne]; omega
        have n2 : (((j : Nat) : Int) == -1) = false := by rw [beq_eq_false_iff_ne]; omega
        rw [hc, Nat.add_comm, Lib.splitK, hj, n2] at e1
        simp only [Bool.false_eq_true, if_false, Int.toNat_natCast, Nat.add_zero, List.length_cons, List.length_nil, Nat.zero_add] at e1
        injection e1 with e3 e4
        refine ⟨b :: h, t, ?_, fun acc => ?_⟩
        · rw [Lib.count_cons_ne b c l hb, hc, Nat.add_comm, Lib.splitK, hix', n1]
          simp only [Bool.false_eq_true, if_false, Int.toNat_natCast, Nat.add_zero, List.length_cons, List.length_nil, Nat.zero_add]
          rw [show j + 1 + 1 = (j + 1) + 1 from rfl, List.drop_succ_cons, List.take_succ_cons, e3, e4]
        · rw [spA, if_neg hb, e2]; simp
theorem spA_acc (c : UInt8) (l acc : List UInt8) : ∃ h t, spA c [] l = h :: t ∧ spA c acc l = (acc ++ h) :: t := by
  obtain ⟨h, t, _, e2⟩ := splitK_spA c l
  exact ⟨h, t, by rw [e2]; simp, e2 acc⟩
theorem back_bytes (x : ByteArray) : (⟨x.data.toList.toArray⟩ : ByteArray) = x := by cases x; simp
theorem splitB_spB (c : UInt8) (s : ByteArray) : Lib.splitB ⟨#[c]⟩ 0 (Lib.countB s ⟨#[c]⟩) s = spB c s := by
  have h := Lib.splitB_data ⟨#[c]⟩ 0 (Lib.countB s ⟨#[c]⟩) s
  have h2 := congrArg (List.map fun l : List UInt8 => (⟨l.toArray⟩ : ByteArray)) h
  rw [List.map_map] at h2
  have e : ((fun l : List UInt8 => (⟨l.toArray⟩ : ByteArray)) ∘ fun x : ByteArray => x.data.toList) = id := funext fun x => back_bytes x
  rw [e, List.map_id] at h2
  rw [h2]
  unfold spB
  obtain ⟨h, t, e1, e2⟩ := splitK_spA c s.data.toList
  have e3 : Lib.splitK [c] 0 (Lib.count s.data.toList [c]) s.data.toList = spA c [] s.data.toList := by rw [e1, e2]; simp
  exact congrArg _ e3
theorem spB_len (c : UInt8) (s : ByteArray) : (spB c s).length = Lib.countB s ⟨#[c]⟩ + 1 := by
  rw [← splitB_spB, Lib.splitB_all _ (show 1 ≤ (⟨#[c]⟩ : ByteArray).size from Nat.le_refl 1) 0 _ s rfl]
/-- Parts joined again. -/
def jnA (c : UInt8) : List (List UInt8) → List UInt8
  | [] => []
  | h :: t => h ++ t.flatMap fun x => c :: x
theorem jn_spA (c : UInt8) : ∀ (l acc : List UInt8), jnA c (spA c acc l) = acc ++ l
  | [], acc => by simp [spA, jnA]
  | b :: l, acc => by
    by_cases hb : b = c
    · subst hb
      obtain ⟨h, t, e1, _⟩ := spA_acc b l []
      have := jn_spA b l []
      rw [e1] at this
      rw [spA, if_pos rfl, e1]
      simp only [jnA, List.nil_append, List.flatMap_cons] at this ⊢
      rw [← this]
      simp
    · rw [spA, if_neg hb, jn_spA c l]; simp
theorem spA_ne (c : UInt8) (acc l : List UInt8) : spA c acc l ≠ [] := by
  obtain ⟨h, t, _, e⟩ := spA_acc c l acc
  rw [e]; simp
theorem spA_lt (c : UInt8) : ∀ (l acc : List UInt8) (p : List UInt8), p ∈ spA c acc l → p.length ≤ acc.length + l.length
  | [], acc, p, h => by simp [spA] at h; subst h; simp
  | b :: l, acc, p, h => by
    rw [spA] at h
    split at h
    · rcases List.mem_cons.1 h with rfl | h
      · simp
      · have := spA_lt c l [] p h
        simp at this ⊢; omega
    · have := spA_lt c l _ p h
      simp at this ⊢; omega
/-- The number that a word tells, with at most 18 digits and as it is written; none if it tells none. -/
def numB (w : ByteArray) : Option Int :=
  match Lib.parseIntB 64 w.data.toList with
  | .ok v => if decB v = w ∧ v.natAbs < 1000000000000000000 then some v else none
  | _ => none
theorem parse_dec : ∀ (k u : Nat), u ≤ k → u ≤ 18446744073709551615 → ∀ r, Lib.parseUintM 18446744073709551615 0 (Lib.decDigits u ++ r) = Lib.parseUintM 18446744073709551615 u r
  | 0, u, hk, hu, r => by
    obtain rfl : u = 0 := by omega
    rw [Lib.decDigits, dif_pos (by decide)]
    rfl
  | k + 1, u, hk, hu, r => by
    by_cases h : u < 10
    · rw [Lib.decDigits, dif_pos h, List.cons_append, List.nil_append, Lib.parseUintM]
      have e : (UInt8.ofNat (48 + u)).toNat = 48 + u := by simp; omega
      rw [e, if_pos ⟨by omega, by omega⟩, if_neg (by omega), if_neg (by omega)]
      congr 1
      omega
    · rw [Lib.decDigits, dif_neg h, List.append_assoc, parse_dec k (u / 10) (by omega) (by omega), List.cons_append, List.nil_append, Lib.parseUintM]
      have e : (UInt8.ofNat (48 + u % 10)).toNat = 48 + u % 10 := by simp; omega
      rw [e, if_pos ⟨by omega, by omega⟩, if_neg (by omega), if_neg (by omega)]
      congr 1
      omega
theorem dec_ne (u : Nat) : Lib.decDigits u ≠ [] := by
  rw [Lib.decDigits]
  split <;> simp
theorem dec_digit (u : Nat) : ∀ (k : Nat), u ≤ k → ∀ b ∈ Lib.decDigits u, 48 ≤ b.toNat ∧ b.toNat ≤ 57 := by
  intro k
  induction k generalizing u with
  | zero =>
    intro hk b hb
    obtain rfl : u = 0 := by omega
    rw [Lib.decDigits, dif_pos (by decide)] at hb
    simp at hb
    subst hb
    decide
  | succ k ih =>
    intro hk b hb
    rw [Lib.decDigits] at hb
    split at hb
    · simp at hb
      subst hb
      simp
      omega
    · rcases List.mem_append.1 hb with hb | hb
      · exact ih (u / 10) (by omega) b hb
      · simp at hb
        subst hb
        simp
        omega
theorem parse_decB {n : Int} (h0 : -9223372036854775808 ≤ n) (h1 : n ≤ 9223372036854775807) : Lib.parseIntB 64 (decB n).data.toList = .ok n := by
  have e64 : (2 : Nat) ^ (64 - 1) = 9223372036854775808 := by decide
  have eM : (2 : Nat) ^ 64 - 1 = 18446744073709551615 := by decide
  have key : ∀ u : Nat, u ≤ 18446744073709551615 → Lib.parseUintB 64 (Lib.decDigits u) = .ok u := fun u hu => by
    unfold Lib.parseUintB
    rw [if_neg (dec_ne u), eM]
    have := parse_dec u u (Nat.le_refl _) hu []
    rw [List.append_nil] at this
    rw [this]
    rfl
  show Lib.parseIntB 64 (Lib.itoa n).toArray.toList = .ok n
  rw [List.toList_toArray]
  unfold Lib.itoa
  by_cases hn : n < 0
  · rw [if_pos hn, Lib.parseIntB_minus, key _ (by omega), e64]
    simp only [Lib.signedC]
    rw [if_neg (by omega)]
    congr 1
    omega
  · rw [if_neg hn]
    obtain ⟨b, r, hbr⟩ : ∃ b r, Lib.decDigits n.toNat = b :: r := List.exists_cons_of_ne_nil (dec_ne _)
    have hb := dec_digit n.toNat _ (Nat.le_refl _) b (by rw [hbr]; simp)
    have hk := key n.toNat (by omega)
    rw [hbr] at hk ⊢
    rw [Lib.parseIntB_plain 64 b r (by omega) (by omega), hk, e64]
    simp only [Lib.signlessC]
    rw [if_neg (by omega)]
    congr 1
    omega
theorem numB_some {w : ByteArray} {n : Int} : numB w = some n ↔ decB n = w ∧ n.natAbs < 1000000000000000000 := by
  constructor
  · intro h
    unfold numB at h
    split at h
    · split at h
      · next v _ hv => injection h with h; subst h; exact hv
      · cases h
    · cases h
  · rintro ⟨rfl, h⟩
    unfold numB
    rw [parse_decB (by omega) (by omega)]
    simp [h]
theorem numB_bd {w : ByteArray} {n : Int} (h : numB w = some n) : -1000000000000000000 < n ∧ n < 1000000000000000000 := by
  have := (numB_some.1 h).2
  omega
theorem dec_data (n : Int) : (decB n).data.toList = (if n < 0 then [45] else []) ++ Lib.decDigits n.natAbs := by
  show (Lib.itoa n).toArray.toList = _
  rw [List.toList_toArray]
  unfold Lib.itoa
  by_cases h : n < 0
  · rw [if_pos h, if_pos h]; rfl
  · rw [if_neg h, if_neg h, show n.toNat = n.natAbs by omega]; rfl
theorem dec_len : ∀ (k u : Nat), u < 10 ^ (k + 1) → (Lib.decDigits u).length ≤ k + 1
  | 0, u, h => by rw [Lib.decDigits, dif_pos (by simpa using h)]; simp
  | k + 1, u, h => by
    rw [Lib.decDigits]
    split
    · simp
    · have := dec_len k (u / 10) (by rw [Nat.pow_succ] at h; omega)
      rw [List.length_append]
      simp
      omega
theorem dec_len_ge : ∀ (k u : Nat), 10 ^ k ≤ u → k + 1 ≤ (Lib.decDigits u).length
  | 0, u, h => by have := List.length_pos_iff.2 (dec_ne u); omega
  | k + 1, u, h => by
    have hp : 0 < 10 ^ k := Nat.pos_of_ne_zero (by simp)
    rw [Nat.pow_succ] at h
    rw [Lib.decDigits, dif_neg (by omega), List.length_append]
    have := dec_len_ge k (u / 10) (by omega)
    simp
    omega
/-- The numbers that words tell; none if one tells none. -/
def numsB : List ByteArray → Option (List Int)
  | [] => some []
  | w :: ws => match numB w with
    | none => none
    | some n => (numsB ws).map (n :: ·)
theorem nums_none {ws : List ByteArray} {k : Nat} {w : ByteArray} (hk : ws[k]? = some w) (h : numB w = none) : numsB ws = none := by
  induction ws generalizing k with
  | nil => simp at hk
  | cons x ws ih =>
    unfold numsB
    cases k with
    | zero =>
      simp at hk
      subst hk
      rw [h]
    | succ k =>
      rw [ih (k := k) (by simpa using hk)]
      cases numB x <;> rfl
theorem nums_take {ws : List ByteArray} {k : Nat} {w : ByteArray} {ns : List Int} {n : Int} (h : numsB (ws.take k) = some ns) (hk : ws[k]? = some w) (hn : numB w = some n) : numsB (ws.take (k + 1)) = some (ns ++ [n]) := by
  induction ws generalizing k ns with
  | nil => simp at hk
  | cons x ws ih =>
    cases k with
    | zero =>
      simp at hk
      subst hk
      simp [numsB] at h
      subst h
      simp [numsB, hn]
    | succ k =>
      rw [List.take_succ_cons, numsB] at h ⊢
      cases hx : numB x with
      | none => rw [hx] at h; cases h
      | some m =>
        rw [hx] at h
        simp only at h ⊢
        cases hr : numsB (ws.take k) with
        | none => rw [hr] at h; cases h
        | some rs =>
          rw [hr] at h
          simp only [Option.map_some, Option.some.injEq] at h
          subst h
          rw [ih hr (by simpa using hk)]
          rfl
theorem nums_len {ws : List ByteArray} {ns : List Int} (h : numsB ws = some ns) : ns.length = ws.length := by
  induction ws generalizing ns with
  | nil => simp [numsB] at h; subst h; rfl
  | cons x ws ih =>
    rw [numsB] at h
    cases hx : numB x with
    | none => rw [hx] at h; cases h
    | some m =>
      rw [hx] at h
      simp only at h
      cases hr : numsB ws with
      | none => rw [hr] at h; cases h
      | some rs =>
        rw [hr] at h
        simp only [Option.map_some, Option.some.injEq] at h
        subst h
        simp [ih hr]
/-- Words that tell numbers are these numbers' texts. -/
theorem nums_text {ws : List ByteArray} {ns : List Int} (h : numsB ws = some ns) : ws = ns.map decB := by
  induction ws generalizing ns with
  | nil => simp [numsB] at h; subst h; rfl
  | cons x ws ih =>
    rw [numsB] at h
    cases hx : numB x with
    | none => rw [hx] at h; cases h
    | some m =>
      rw [hx] at h
      simp only at h
      cases hr : numsB ws with
      | none => rw [hr] at h; cases h
      | some rs =>
        rw [hr] at h
        simp only [Option.map_some, Option.some.injEq] at h
        subst h
        rw [List.map_cons, ← ih hr, (numB_some.1 hx).1]
/-- A text without its sign. -/
def CutS (s T : ByteArray) (neg : Bool) : Prop := if neg = true then s.data.toList = 45 :: T.data.toList else s.data.toList = T.data.toList ∧ T.data.toList.head? ≠ some 45
theorem num_T {s T : ByteArray} {neg : Bool} {m : Int} (h : CutS s T neg) (hm : numB s = some m) : T.data.toList = Lib.decDigits m.natAbs ∧ (neg = true ↔ m < 0) := by
  have hd := dec_data m
  rw [(numB_some.1 hm).1] at hd
  unfold CutS at h
  have hh : (Lib.decDigits m.natAbs).head? ≠ some 45 := fun e => by
    have := dec_digit m.natAbs _ (Nat.le_refl _) 45 (List.mem_of_mem_head? e)
    simp at this
  cases neg
  · simp only [Bool.false_eq_true, if_false] at h
    by_cases hn : m < 0
    · rw [if_pos hn, h.1] at hd
      exact absurd (by rw [hd]; rfl) h.2
    · rw [if_neg hn, h.1] at hd
      exact ⟨hd, by simp; omega⟩
  · simp only [if_true] at h
    by_cases hn : m < 0
    · rw [if_pos hn, h] at hd
      simp at hd
      exact ⟨hd, by simp; omega⟩
    · rw [if_neg hn, h] at hd
      exact absurd (by rw [← List.nil_append (Lib.decDigits _), ← hd]; rfl) hh
theorem size_list (s : ByteArray) : s.data.toList.length = s.size := by cases s; rfl
theorem num_no {s T : ByteArray} {neg : Bool} (h : CutS s T neg) (hz : T.size = 0 ∨ 18 < T.size) : numB s = none := by
  cases hm : numB s with
  | none => rfl
  | some m =>
    have h1 := (num_T h hm).1
    have h2 := (numB_some.1 hm).2
    have h3 := dec_len 17 m.natAbs (by simpa using h2)
    have h4 := List.length_pos_iff.2 (dec_ne m.natAbs)
    rw [← h1, size_list] at h3 h4
    omega
theorem head_list {s : ByteArray} (h : 0 < s.size) : s.data.toList = s[0] :: s.data.toList.drop 1 := by
  have hl := size_list s
  have := List.drop_eq_getElem_cons (l := s.data.toList) (i := 0) (by omega)
  rw [List.drop_zero] at this
  exact this
theorem ext_list (s : ByteArray) (a b : Nat) : (s.extract a b).data.toList = (s.data.toList.drop a).take (b - a) := by
  rw [Lib.extract_data]
theorem cut_neg {s : ByteArray} (h : 0 < s.size) (h45 : s[0] = 45) : CutS s (s.extract 1 s.size) true ∧ (s.extract 1 s.size).size = s.size - 1 ∧ Lib.trimPrefix s.data.toList [45] = (s.extract 1 s.size).data.toList := by
  have hl := size_list s
  have e : (s.extract 1 s.size).data.toList = s.data.toList.drop 1 := by
    rw [ext_list, List.take_of_length_le (by rw [List.length_drop]; omega)]
  have hh := head_list h
  rw [h45] at hh
  refine ⟨by unfold CutS; rw [if_pos rfl, e]; exact hh, by rw [← size_list, e, List.length_drop]; omega, ?_⟩
  unfold Lib.trimPrefix Lib.hasPrefix
  rw [e, if_pos (by rw [hh]; rfl)]
  rfl
theorem cut_pos {s : ByteArray} (h : ∀ h : 0 < s.size, s[0] ≠ 45) : CutS s s false ∧ Lib.trimPrefix s.data.toList [45] = s.data.toList := by
  have hh : s.data.toList.head? ≠ some 45 := fun e => by
    rcases Nat.eq_zero_or_pos s.size with h0 | h0
    · have e0 : s.data.toList = [] := List.eq_nil_of_length_eq_zero (by rw [size_list]; omega)
      rw [e0] at e
      cases e
    · rw [head_list h0] at e
      exact h h0 (Option.some.inj e)
  refine ⟨by unfold CutS; rw [if_neg (by decide)]; exact ⟨rfl, hh⟩, ?_⟩
  unfold Lib.trimPrefix Lib.hasPrefix
  rw [if_neg]
  intro e
  cases hl : s.data.toList with
  | nil => rw [hl] at e; cases e
  | cons b l =>
    rw [hl] at e hh
    simp [List.isPrefixOf] at e hh
    exact hh e.symm
/-- What the number of a word is for a walk: the number, and whether there is one. -/
def numN (s : ByteArray) : Int := (numB s).getD 0
def numK (s : ByteArray) : Bool := (numB s).isSome
theorem num_none_ {s : ByteArray} (h : numB s = none) : numN s = 0 ∧ numK s = false := by unfold numN numK; rw [h]; exact ⟨rfl, rfl⟩
theorem num_some_ {s : ByteArray} {n : Int} (h : numB s = some n) : numN s = n ∧ numK s = true := by unfold numN numK; rw [h]; exact ⟨rfl, rfl⟩
theorem num_bd_ (s : ByteArray) : -1000000000000000000 < numN s ∧ numN s < 1000000000000000000 := by
  cases h : numB s with
  | none => rw [(num_none_ h).1]; omega
  | some n => rw [(num_some_ h).1]; exact numB_bd h
theorem num_of {s : ByteArray} (h : numK s = true) : numB s = some (numN s) := by
  unfold numK at h
  unfold numN
  cases e : numB s with
  | none => rw [e] at h; cases h
  | some n => rfl
theorem num_not {s : ByteArray} (h : numK s = false) : numB s = none := by
  unfold numK at h
  cases e : numB s with
  | none => rfl
  | some n => rw [e] at h; cases h
theorem spB_ne (c : UInt8) (s : ByteArray) : ∃ w ws, spB c s = w :: ws := by
  unfold spB
  cases hsp : spA c [] s.data.toList with
  | nil => exact absurd hsp (spA_ne _ _ _)
  | cons p ps => exact ⟨_, _, rfl⟩
theorem spB_sz {c : UInt8} {s p : ByteArray} (h : p ∈ spB c s) : p.size ≤ s.size := by
  unfold spB at h
  obtain ⟨l, h1, rfl⟩ := List.mem_map.1 h
  have := spA_lt c _ _ l h1
  have hl := size_list s
  show l.toArray.size ≤ _
  simp at this ⊢
  omega
theorem spB_count (c : UInt8) (s : ByteArray) : (spB c s).length ≤ s.size + 1 := by
  rw [spB_len]
  have := Lib.countB_le ⟨#[c]⟩ (Nat.le_refl 1) s.size s (Nat.le_refl _)
  omega
end Go.Proofs.YtpgkellmhlmjeaaGreatDoor
namespace Go.Proofs.YtpgkellmhlmjeaaGreatDoor
open Go.RowKit Go.Sort
/-- A slice of integers with its capacity. -/
def RdC (w : World) (B : Nat) (T : Option Addr) (c : Nat) (xs : List Int) : Prop := Rd (Value.int .i64) w B T xs ∧ xs.length ≤ c ∧ c ≤ maxLen
/-- The index of the first element that p takes; -1 if there is none. -/
def ixP (p : Int → Bool) : List Int → Nat → Int
  | [], _ => -1
  | x :: xs, i => if p x = true then i else ixP p xs (i + 1)
theorem ixP_all (p : Int → Bool) : ∀ (xs : List Int) (i : Nat), decide (0 ≤ ixP p xs i) = xs.any p
  | [], _ => rfl
  | x :: xs, i => by
    unfold ixP
    cases h : p x
    · rw [if_neg (by simp), ixP_all p xs (i + 1), List.any_cons, h, Bool.false_or]
    · rw [if_pos rfl, List.any_cons, h, Bool.true_or, decide_eq_true (by omega)]
theorem ixP_step {p : Int → Bool} {xs : List Int} {k : Nat} {x : Int} (h : xs[k]? = some x) : ixP p (xs.drop k) k = if p x = true then (k : Int) else ixP p (xs.drop (k + 1)) (k + 1) := by
  obtain ⟨h1, h2⟩ := List.getElem?_eq_some_iff.1 h
  rw [List.drop_eq_getElem_cons h1, h2]; rfl
theorem ixP_end {p : Int → Bool} {xs : List Int} {k : Nat} (h : ¬ k < xs.length) : ixP p (xs.drop k) k = -1 := by
  rw [List.drop_eq_nil_of_le (by omega)]; rfl
set_option maxHeartbeats 1000000 in
theorem indexFuncBC_any (p : Int → Bool) (HF : Hid (∀ x W, Calls Tryz.prog 77 #[.int .i64 x] W fun e w' => e = .returned (.bool (p x)) ∧ W = w')) (A : Option Addr) (c : Nat) (xs : List Int) (w : World) (hx : Rd (Value.int .i64) w w.heap.size A xs) (hm : xs.length ≤ maxLen) :
    Calls Tryz.prog 124 #[.slice A xs.length c, .func (Fn.func 77) #[] #[]] w fun e w' => e = .returned (.int .i64 (ixP p xs 0)) ∧ w = w' := by
  unfold maxLen at hm
  obtain ⟨R, hR⟩ : ∃ R, ixP p xs 0 = R := ⟨_, rfl⟩
  rw [hR]
  have HR : Hid (ixP p (xs.drop 0) 0 = R) := hR
  clear hR
  go_enter Tryz.func124, Tryz.ntmps124
  go_wp2_with fail
  go_loop [8] (fun t => ∃ k : Nat, k ≤ xs.length ∧ t = .int .i64 k ∧ Hid (ixP p (xs.drop k) k = R)) (fun t => xs.length - (intOf t).toNat)
  case atStart => exact ⟨0, by omega, rfl, HR.out⟩
  case round =>
    obtain ⟨k, hk, rfl, HK⟩ := hrel
    clear HR
    by_cases hlt : k < xs.length
    · obtain ⟨b, off, rfl, hb, hc⟩ := hx (by omega)
      obtain ⟨x, hxk⟩ : ∃ x, xs[k]? = some x := ⟨_, List.getElem?_eq_getElem hlt⟩
      have c1 := hc k x hxk
      have HS := Lib.hid (ixP_step (p := p) hxk)
      clear hc hxk
      have i0 : (0 : Int) ≤ (k : Int) := by omega
      have i1 : (k : Int) < (xs.length : Int) := by omega
      have HC := Lib.hid (HF.out x)
      cases hp : p x
      · have HE : Hid (ixP p (xs.drop (k + 1)) (k + 1) = R) := by
          have h := HK.out
          rw [HS.out, hp, if_neg (by simp)] at h
          exact h
        rw [hp] at HC
        clear hp
        go_wp2_with fail
        refine (HC.out _).mono ?_
        rintro e w' ⟨rfl, rfl⟩
        go_wp2
        go_round
        case rel => exact ⟨k + 1, by omega, by go_num, HE.out⟩
        case measure => simp [intOf]; omega
      · have HE : Hid ((k : Int) = R) := by
          have h := HK.out
          rw [HS.out, hp, if_pos rfl] at h
          exact h
        rw [hp] at HC
        clear hp
        go_wp2_with fail
        refine (HC.out _).mono ?_
        rintro e w' ⟨rfl, rfl⟩
        go_wp2
        go_ret
        exact ⟨ret_int HE.out, rfl⟩
    · have HE : Hid (-1 = R) := (ixP_end hlt).symm.trans HK.out
      go_wp2
      go_ret
      exact ⟨ret_int HE.out, rfl⟩
theorem containsFuncBC_any (p : Int → Bool) (HF : Hid (∀ x W, Calls Tryz.prog 77 #[.int .i64 x] W fun e w' => e = .returned (.bool (p x)) ∧ W = w')) (A : Option Addr) (c : Nat) (xs : List Int) (w : World) (hx : Rd (Value.int .i64) w w.heap.size A xs) (hm : xs.length ≤ maxLen) :
    Calls Tryz.prog 76 #[.slice A xs.length c, .func (Fn.func 77) #[] #[]] w fun e w' => e = .returned (.bool (xs.any p)) ∧ w = w' := by
  have HC : Hid (∀ W, w = W → Calls Tryz.prog 124 #[.slice A xs.length c, .func (Fn.func 77) #[] #[]] W fun e w' => e = .returned (.int .i64 (ixP p xs 0)) ∧ W = w') := fun W hW => by subst hW; exact indexFuncBC_any p HF A c xs w hx hm
  rw [← ixP_all p xs 0]
  generalize ixP p xs 0 = z at *
  go_enter Tryz.func76, Tryz.ntmps76
  go_wp2_with fail
  refine (HC.out _ rfl).mono ?_
  rintro e w' ⟨rfl, rfl⟩
  go_wp2
  go_ret
  exact ⟨rfl, rfl⟩
end Go.Proofs.YtpgkellmhlmjeaaGreatDoor
namespace Go.Proofs.YtpgkellmhlmjeaaGreatDoor
open Ieee
theorem cut_even_le (neg : Bool) (n drop : Nat) : Toward.even.cut neg n drop ≤ n / (1 <<< min drop (n.log2 + 2)) + 1 := by
  unfold Toward.cut
  simp only
  have : ∀ b : Bool, b.toNat ≤ 1 := by intro b; cases b <;> decide
  exact Nat.add_le_add_left (this _) _
theorem cut_even_ge (neg : Bool) (n drop : Nat) : n / (1 <<< min drop (n.log2 + 2)) ≤ Toward.even.cut neg n drop := by
  unfold Toward.cut
  simp only
  exact Nat.le_add_right _ _
theorem log2_pos {m : Nat} (h : 0 < m) : 2 ^ m.log2 ≤ m ∧ m < 2 ^ (m.log2 + 1) := ⟨Nat.log2_self_le (by omega), Nat.lt_log2_self⟩
/-- The kept digits of a number are 53 binary digits, or 2^53. -/
theorem kept_bd {mag : Nat} (hm : 0 < mag) (place last : Int) (hl : last = place + mag.log2 - 52) :
    2 ^ 52 ≤ Toward.even.cut false (mag <<< (place - last).toNat) (last - place).toNat ∧ Toward.even.cut false (mag <<< (place - last).toNat) (last - place).toNat ≤ 2 ^ 53 := by
  obtain ⟨h1, h2⟩ := log2_pos hm
  rcases Nat.lt_or_ge 52 mag.log2 with h | h
  · -- digits are dropped
    have e1 : (place - last).toNat = 0 := by omega
    have e2 : (last - place).toNat = mag.log2 - 52 := by omega
    rw [e1, e2, Nat.shiftLeft_zero]
    have e3 : min (mag.log2 - 52) (mag.log2 + 2) = mag.log2 - 52 := by omega
    have l := cut_even_le false mag (mag.log2 - 52)
    have g := cut_even_ge false mag (mag.log2 - 52)
    rw [e3, Nat.one_shiftLeft] at l g
    have p1 : 2 ^ mag.log2 = 2 ^ 52 * 2 ^ (mag.log2 - 52) := by rw [← Nat.pow_add]; congr 1; omega
    have p2 : 2 ^ (mag.log2 + 1) = 2 ^ 53 * 2 ^ (mag.log2 - 52) := by rw [← Nat.pow_add]; congr 1; omega
    have hp : 0 < 2 ^ (mag.log2 - 52) := Nat.pow_pos (by omega)
    have q1 : 2 ^ 52 ≤ mag / 2 ^ (mag.log2 - 52) := by rw [Nat.le_div_iff_mul_le hp]; omega
    have q2 : mag / 2 ^ (mag.log2 - 52) < 2 ^ 53 := by rw [Nat.div_lt_iff_lt_mul hp]; omega
    omega
  · have e1 : (place - last).toNat = 52 - mag.log2 := by omega
    have e2 : (last - place).toNat = 0 := by omega
    rw [e1, e2]
    have hs : mag <<< (52 - mag.log2) = mag * 2 ^ (52 - mag.log2) := Nat.shiftLeft_eq _ _
    have p1 : 2 ^ mag.log2 * 2 ^ (52 - mag.log2) = 2 ^ 52 := by rw [← Nat.pow_add]; congr 1; omega
    have p2 : 2 ^ (mag.log2 + 1) * 2 ^ (52 - mag.log2) = 2 ^ 53 := by rw [← Nat.pow_add]; congr 1; omega
    have hp : 0 < 2 ^ (52 - mag.log2) := Nat.pow_pos (by omega)
    have q1 : 2 ^ mag.log2 * 2 ^ (52 - mag.log2) ≤ mag * 2 ^ (52 - mag.log2) := Nat.mul_le_mul_right _ h1
    have q2 : mag * 2 ^ (52 - mag.log2) < 2 ^ (mag.log2 + 1) * 2 ^ (52 - mag.log2) := Nat.mul_lt_mul_of_pos_right h2 hp
    have l := cut_even_le false (mag <<< (52 - mag.log2)) 0
    have g := cut_even_ge false (mag <<< (52 - mag.log2)) 0
    simp only [Nat.zero_le, Nat.min_eq_left, Nat.shiftLeft_zero, Nat.div_one] at l g
    rw [hs] at l g ⊢
    omega
theorem kept_bd' {mag : Nat} (hm : 0 < mag) (place last : Int) (hl : last = place + mag.log2 - 52) :
    double.binade ≤ Toward.even.cut false (mag <<< (place - last).toNat) (last - place).toNat ∧ Toward.even.cut false (mag <<< (place - last).toNat) (last - place).toNat ≤ 2 * double.binade := by
  obtain ⟨h1, h2⟩ := kept_bd hm place last hl
  have e : double.binade = 2 ^ 52 := rfl
  rw [e]
  exact ⟨h1, by omega⟩
theorem rung_facts (q kept B : Nat) (hB : 0 < B) (h1 : B ≤ kept) (h2 : kept ≤ 2 * B) (hq : q ≤ 2044) :
    (q * B + kept) / (2048 * B) = 0 ∧ (q * B + kept) % (2048 * B) = q * B + kept ∧ B ≤ q * B + kept ∧ q * B + kept < 2047 * B ∧
    (kept < 2 * B → (q * B + kept) % B = kept - B ∧ (q * B + kept) / B = q + 1) ∧ (kept = 2 * B → (q * B + kept) % B = 0 ∧ (q * B + kept) / B = q + 2) := by
  have a1 : q * B ≤ 2044 * B := Nat.mul_le_mul_right B hq
  have a2 : q * B + kept < 2047 * B := by omega
  have a3 : q * B + kept < 2048 * B := by omega
  refine ⟨Nat.div_eq_of_lt a3, Nat.mod_eq_of_lt a3, by omega, a2, fun h => ?_, fun h => ?_⟩
  · have e : q * B + kept = (kept - B) + (q + 1) * B := by rw [Nat.add_mul]; omega
    rw [e, Nat.add_mul_mod_self_right, Nat.add_mul_div_right _ _ hB, Nat.mod_eq_of_lt (by omega), Nat.div_eq_of_lt (by omega)]
    exact ⟨rfl, by omega⟩
  · have e : q * B + kept = 0 + (q + 2) * B := by rw [Nat.add_mul]; omega
    rw [e, Nat.add_mul_mod_self_right, Nat.add_mul_div_right _ _ hB, Nat.zero_mod, Nat.zero_div]
    exact ⟨rfl, by omega⟩
/-- What is written is read again: 53 digits at their place, of about the same size. -/
theorem read_nearest' {mag : Nat} (hm : 0 < mag) (place : Int) (lo : -1000 ≤ place + mag.log2) (hi : place + mag.log2 ≤ 900) :
    ∃ M : Nat, ∃ L : Int, double.read (double.nearest false mag place) = .number false M L ∧ double.binade ≤ M ∧ M < 2 * double.binade ∧ (L = place + mag.log2 - 52 ∨ (L = place + mag.log2 - 51 ∧ M = double.binade)) := by
  have hleast : double.leastPlace = -1074 := by decide
  have hinf : double.infRung = 2047 * double.binade := rfl
  have hsw : double.signWeight = 2048 * double.binade := rfl
  have hfb : ((double.fractionBits : Nat) : Int) = 52 := rfl
  have hBpos : 0 < double.binade := by decide
  obtain ⟨last, hlast⟩ : ∃ last : Int, last = place + mag.log2 - 52 := ⟨_, rfl⟩
  obtain ⟨k1, k2⟩ := kept_bd' hm place last hlast
  have hlm : max (place + (mag.log2 : Int) - 52) (-1074) = last := by omega
  obtain ⟨q, hq⟩ : ∃ q : Nat, (q : Int) = last + 1074 := ⟨(last + 1074).toNat, by omega⟩
  have eq : (last - -1074).toNat = q := by omega
  generalize hk : Toward.even.cut false (mag <<< (place - last).toNat) (last - place).toNat = kept at k1 k2
  have hnear : double.nearest false mag place = Format.word double false (min (q * double.binade + kept) (2047 * double.binade)) := by
    unfold Format.nearest
    rw [if_neg (by omega)]
    simp only [hleast, hfb, hlm, eq, hinf, hk]
  rw [hnear]
  unfold Format.read
  rw [hinf, hsw, hleast]
  generalize double.binade = B at *
  obtain ⟨f1, f2, f3, f4, f5, f6⟩ := rung_facts q kept B hBpos k1 k2 (by omega)
  have hw : Format.word double false (min (q * B + kept) (2047 * B)) = q * B + kept := by
    unfold Format.word
    simp only [Bool.false_eq_true, if_false]
    omega
  simp only [hw, f1, f2]
  rw [if_neg (by omega), if_pos f4]
  rcases Nat.lt_or_ge kept (2 * B) with h | h
  · obtain ⟨g1, g2⟩ := f5 h
    refine ⟨kept, last, ?_, k1, h, .inl hlast⟩
    rw [g1, g2]
    have e3 : B + (kept - B) = kept := by omega
    have e4 : -1074 + (((q + 1 - 1 : Nat)) : Int) = last := by omega
    rw [e3, e4]; rfl
  · obtain rfl : kept = 2 * B := by omega
    obtain ⟨g1, g2⟩ := f6 rfl
    refine ⟨B, last + 1, ?_, Nat.le_refl _, by omega, .inr ⟨by omega, rfl⟩⟩
    rw [g1, g2]
    have e4 : -1074 + (((q + 2 - 1 : Nat)) : Int) = last + 1 := by omega
    rw [e4]; rfl
theorem read_nearest {mag : Nat} (hm : 0 < mag) (place : Int) (lo : -1000 ≤ place + mag.log2) (hi : place + mag.log2 ≤ 900) :
    ∃ M : Nat, ∃ L : Int, double.read (double.nearest false mag place) = .number false M L ∧ 2 ^ 52 ≤ M ∧ M < 2 ^ 53 ∧ (L = place + mag.log2 - 52 ∨ (L = place + mag.log2 - 51 ∧ M = 2 ^ 52)) := by
  obtain ⟨M, L, h1, h2, h3, h4⟩ := read_nearest' hm place lo hi
  have e : double.binade = 2 ^ 52 := rfl
  rw [e] at h2 h3 h4
  exact ⟨M, L, h1, h2, by omega, h4⟩
theorem rootFrom_le (n : Nat) : ∀ (todo root : Nat), root * root ≤ n → Datum.rootFrom n todo root * Datum.rootFrom n todo root ≤ n
  | 0, root, h => by unfold Datum.rootFrom; exact h
  | todo + 1, root, h => by
    unfold Datum.rootFrom
    simp only
    split
    · rename_i h'; exact rootFrom_le n todo _ h'
    · exact rootFrom_le n todo root h
/-- A float of at most 53 digits: its root's whole part. -/
theorem sqrt_int {n : Nat} (hn : 0 < n) (hb : n < 2 ^ 53) :
    ∃ b r, double.sqrt (double.write (.number false n 0)) = some b ∧ Go.floatToIntVal .f64 b .i64 = some r ∧ 0 ≤ r ∧ r ≤ 2 ^ 30 := by
  obtain ⟨l1, l2⟩ := log2_pos hn
  have hlog : n.log2 ≤ 52 := by
    rcases Nat.lt_or_ge 52 n.log2 with h | h
    · have := Nat.pow_le_pow_right (n := 2) (by omega) (show 53 ≤ n.log2 by omega); omega
    · exact h
  obtain ⟨M, L, hread, m1, m2, hL⟩ := read_nearest hn 0 (by omega) (by omega)
  have hM0 : M ≠ 0 := by omega
  have hMl : M.log2 = 52 := by
    rw [Nat.log2_eq_iff hM0]; exact ⟨m1, m2⟩
  -- the root
  obtain ⟨more, hmore, hpar⟩ : ∃ more : Nat, more = 2 * 54 - M.log2 + ((L - (2 * 54 - M.log2 : Nat)) % 2).toNat ∧ more ≤ 57 ∧ 56 ≤ more ∧ (L - more) % 2 = 0 := ⟨_, rfl, by omega, by omega, by omega⟩
  obtain ⟨p1, p2, p3⟩ := hpar
  obtain ⟨N, hNd⟩ : ∃ N, N = M <<< more := ⟨_, rfl⟩
  obtain ⟨whole, hwd⟩ : ∃ x, x = Datum.rootFrom N (N.log2 / 2 + 1) 0 := ⟨_, rfl⟩
  have hroot : Datum.root 54 (.number false M L) = some (.number false (2 * whole + (whole * whole != N).toNat) ((L - more) / 2 - 1)) := by
    unfold Datum.root
    simp only [hM0, if_false, Bool.false_eq_true]
    rw [← hmore, ← hNd, ← hwd]
  have hw : whole * whole ≤ N := by rw [hwd]; exact rootFrom_le N _ 0 (Nat.zero_le _)
  have hN : N = M * 2 ^ more := by rw [hNd]; exact Nat.shiftLeft_eq _ _
  clear hNd hwd
  have hNpos : 0 < N := by rw [hN]; exact Nat.mul_pos (by omega) (Nat.pow_pos (by omega))
  have hwb : whole < 2 ^ 55 := by
    rcases Nat.lt_or_ge whole (2 ^ 55) with h | h
    · exact h
    · exfalso
      have a1 : 2 ^ 55 * 2 ^ 55 ≤ whole * whole := Nat.mul_le_mul h h
      have a2 : M * 2 ^ more < 2 ^ 53 * 2 ^ 57 := Nat.lt_of_lt_of_le (Nat.mul_lt_mul_of_pos_right m2 (Nat.pow_pos (by omega))) (Nat.mul_le_mul_left _ (Nat.pow_le_pow_right (by omega) p1))
      have a3 : (2 : Nat) ^ 53 * 2 ^ 57 = 2 ^ 55 * 2 ^ 55 := by decide
      omega
  obtain ⟨mag, hmag⟩ : ∃ mag, mag = 2 * whole + (whole * whole != N).toNat := ⟨_, rfl⟩
  have hmag0 : 0 < mag := by
    rcases Nat.eq_zero_or_pos whole with h | h
    · have : (whole * whole != N) = true := by rw [bne_iff_ne, h]; omega
      rw [hmag, this]; simp
    · omega
  have hmag1 : mag < 2 ^ 56 := by
    have : (whole * whole != N).toNat ≤ 1 := by cases (whole * whole != N) <;> decide
    omega
  have hlm : mag.log2 ≤ 55 := by
    rcases Nat.lt_or_ge 55 mag.log2 with h | h
    · have := (log2_pos hmag0).1
      have := Nat.pow_le_pow_right (n := 2) (by omega) (show 56 ≤ mag.log2 by omega)
      omega
    · exact h
  rw [← hmag] at hroot
  obtain ⟨M', L', hread', m1', m2', hL'⟩ := read_nearest hmag0 ((L - more) / 2 - 1) (by omega) (by omega)
  refine ⟨double.write (.number false mag ((L - more) / 2 - 1)), ((M' / (1 <<< min (-L').toNat 54) : Nat) : Int), ?_, ?_, Int.natCast_nonneg _, ?_⟩
  · show (Datum.root 54 (double.read (double.nearest false n 0))).map double.write = _
    rw [hread, hroot]
    rfl
  · unfold Go.floatToIntVal
    have hd : Go.FloatKind.decode .f64 (double.write (.number false mag ((L - more) / 2 - 1))) = .number false M' L' := hread'
    have hMl' : M'.log2 = 52 := by
      rw [Nat.log2_eq_iff (by omega)]; exact ⟨m1', m2'⟩
    have e1 : L'.toNat = 0 := by omega
    have hi : Datum.toInt .zero (.number false M' L') = some ((M' / (1 <<< min (-L').toNat 54) : Nat) : Int) := by
      unfold Datum.toInt Datum.integral Toward.cut
      simp only [e1, Nat.shiftLeft_zero, hMl', signed]
      simp
    rw [hd, hi]
    simp only
    have hle : M' / (1 <<< min (-L').toNat 54) ≤ M' := Nat.div_le_self _ _
    rw [if_pos]
    have q1 : Go.IntKind.min .i64 = -9223372036854775808 := by decide
    have q2 : Go.IntKind.max .i64 = 9223372036854775807 := by decide
    rw [q1, q2]
    generalize M' / (1 <<< min (-L').toNat 54) = z at hle
    constructor <;> omega
  · rw [Nat.one_shiftLeft]
    have hd : 25 ≤ min (-L').toNat 54 := by omega
    have h1 : M' / 2 ^ min (-L').toNat 54 ≤ M' / 2 ^ 25 := Nat.div_le_div_left (Nat.pow_le_pow_right (by omega) hd) (Nat.pow_pos (by omega))
    have h2 : M' / 2 ^ 25 < 2 ^ 28 := by rw [Nat.div_lt_iff_lt_mul (by decide)]; omega
    generalize M' / 2 ^ min (-L').toNat 54 = z at h1 ⊢
    generalize M' / 2 ^ 25 = y at h1 h2
    omega
end Go.Proofs.YtpgkellmhlmjeaaGreatDoor
