/- XDecNP XSplP XKeepA XDecNW XNamed XErrW XNotes XTextP in one text. No condition but those that each theorem names. -/
import Derived.Test.YtbcikkaoohihhaaGreatDoorPackW
import Derived.Lib.ItoaNum
import Derived.Lib.ItoaLen
import Derived.Lib.ItoaMem
import Derived.Lib.SplitLaws
import Derived.Lib.ParseIntB
import Derived.Lib.ParseIntBCases
import Derived.Test.YtbcikkaoohihhaaGreatDoorMrA
import Derived.Deep.AppendLies
import Derived.Test.YtbcikkaoohihhaaGreatDoorShelf
import Derived.Lib.AppendIntMem
/- Numbers in decimal: the plain law. No condition but those that each theorem names. -/
namespace Go.Proofs.YtbcikkaoohihhaaGreatDoor
open Go.RowKit Go.Sort

/-- The digits of a number, as bytes; none for 0. -/
def dg0 (u : Nat) : List Int := if u = 0 then [] else dg0 (u / 10) ++ [48 + ((u % 10 : Nat) : Int)]
termination_by u
decreasing_by omega
theorem dg0_zero : dg0 0 = [] := by rw [dg0, if_pos rfl]
theorem dg0_pos {u : Nat} (h : u ≠ 0) : dg0 u = dg0 (u / 10) ++ [48 + ((u % 10 : Nat) : Int)] := by rw [dg0, if_neg h]
/-- A number's decimal text. -/
def decB (n : Int) : ByteArray := ⟨(Lib.itoa n).toArray⟩
theorem dec_map : ∀ (k u : Nat), u ≤ k → 0 < u → (dg0 u).map (fun n => UInt8.ofNat n.toNat) = Lib.decDigits u
  | 0, u, hk, h0 => by omega
  | k + 1, u, hk, h0 => by
    rw [dg0_pos (by omega), List.map_append]
    by_cases h : u < 10
    · rw [Lib.decDigits, dif_pos h, show u / 10 = 0 by omega, dg0_zero]
      simp only [List.map_nil, List.nil_append, List.map_cons]
      rw [show u % 10 = u by omega]
      rfl
    · rw [Lib.decDigits, dif_neg h, dec_map k (u / 10) (by omega) (by omega)]
      rfl
theorem byS_dg0 {u : Nat} (h : 0 < u) : byS (dg0 u) = ⟨(Lib.decDigits u).toArray⟩ := by
  unfold byS
  rw [dec_map u u (Nat.le_refl _) h]
theorem dg0_byte : ∀ (k u : Nat), u ≤ k → ∀ b ∈ dg0 u, 0 ≤ b ∧ b ≤ 255
  | 0, u, hk, b, hb => by
    obtain rfl : u = 0 := by omega
    rw [dg0_zero] at hb
    simp at hb
  | k + 1, u, hk, b, hb => by
    by_cases h : u = 0
    · subst h
      rw [dg0_zero] at hb
      simp at hb
    · rw [dg0_pos h] at hb
      rcases List.mem_append.1 hb with hb | hb
      · exact dg0_byte k (u / 10) (by omega) b hb
      · simp only [List.mem_cons, List.not_mem_nil, or_false] at hb
        omega
theorem dg0_len : ∀ (k u : Nat), u < 10 ^ k → (dg0 u).length ≤ k
  | 0, u, h => by
    obtain rfl : u = 0 := by simp at h; omega
    rw [dg0_zero]; simp
  | k + 1, u, h => by
    by_cases h0 : u = 0
    · subst h0; rw [dg0_zero]; simp
    · rw [dg0_pos h0, List.length_append]
      have := dg0_len k (u / 10) (by rw [Nat.pow_succ] at h; omega)
      simp; omega
theorem dg0_ne {u : Nat} (h : 0 < u) : 0 < (dg0 u).length := by rw [dg0_pos (by omega)]; simp
theorem decB_zero : decB 0 = ⟨#[48]⟩ := by
  unfold decB Lib.itoa
  rw [if_neg (by omega)]
  rw [Lib.decDigits, dif_pos (by decide)]
  rfl
theorem decB_pos {n : Int} (h : 0 < n) : decB n = byS (dg0 n.natAbs) := by
  rw [byS_dg0 (by omega)]
  unfold decB Lib.itoa
  rw [if_neg (by omega), show n.toNat = n.natAbs by omega]
theorem decB_neg {n : Int} (h : n < 0) : decB n = ⟨#[45]⟩ ++ byS (dg0 n.natAbs) := by
  rw [byS_dg0 (by omega)]
  unfold decB Lib.itoa
  rw [if_pos h]
  apply ByteArray.ext
  simp [ByteArray.data_append]
theorem decB_size {n : Int} (h0 : -9223372036854775808 ≤ n) (h1 : n ≤ 9223372036854775807) : (decB n).size ≤ 21 := by
  have := Lib.itoa_length_le n h0 h1
  show (Lib.itoa n).toArray.size ≤ 21
  simpa using this
end Go.Proofs.YtbcikkaoohihhaaGreatDoor

/- Texts cut at a byte, and words that are decimal numbers: the plain law. No condition but those that each theorem names. -/
namespace Go.Proofs.YtbcikkaoohihhaaGreatDoor
open Go.RowKit Go.Sort

/-- A text cut at a byte, behind the part that is begun. -/
def spA (c : UInt8) : List UInt8 → List UInt8 → List (List UInt8)
  | acc, [] => [acc]
  | acc, b :: l => if b = c then acc :: spA c [] l else spA c (acc ++ [b]) l
/-- A text's parts between bytes. -/
def spB (c : UInt8) (s : ByteArray) : List ByteArray := (spA c [] s.data.toList).map fun l => ⟨l.toArray⟩
theorem splitK_spA (c : UInt8) : ∀ l : List UInt8, ∃ h t, Lib.splitK [c] 0 (Lib.count l [c]) l = h :: t ∧ ∀ acc, spA c acc l = (acc ++ h) :: t
  | [] => ⟨[], [], by rw [Lib.count_miss (by simp [Lib.index])]; rfl, fun acc => by simp [spA]⟩
  | b :: l => by
    obtain ⟨h, t, e1, e2⟩ := splitK_spA c l
    by_cases hb : b = c
    · subst hb
      have hix : Lib.index (b :: l) [b] = ((0 : Nat) : Int) := by rw [Lib.index]; simp [List.isPrefixOf]
      refine ⟨[], h :: t, ?_, fun acc => ?_⟩
      · rw [Lib.count_cons_eq, Nat.add_comm, Lib.splitK, hix]
        simp [e1]
      · rw [spA, if_pos rfl, e2]
        simp
    · have hp : ([c] : List UInt8).isPrefixOf (b :: l) = false := by simp [List.isPrefixOf, Ne.symm hb]
      have hix : Lib.index (b :: l) [c] = if Lib.index l [c] == -1 then -1 else Lib.index l [c] + 1 := by rw [Lib.index, hp]; simp
      by_cases hm : Lib.index l [c] = -1
      · rw [Lib.count_miss hm] at e1
        injection e1 with e3 e4
        subst e3 e4
        refine ⟨b :: l, [], ?_, fun acc => ?_⟩
        · rw [Lib.count_cons_ne b c l hb, Lib.count_miss hm]; rfl
        · rw [spA, if_neg hb, e2]; simp
      · have hge := Lib.index_ge l [c]
        obtain ⟨j, hj⟩ : ∃ j : Nat, Lib.index l [c] = j := ⟨(Lib.index l [c]).toNat, by omega⟩
        have hc := Lib.count_hit (sub := [c]) (by simp) hj
        have hix' : Lib.index (b :: l) [c] = ((j + 1 : Nat) : Int) := by rw [hix, if_neg (fun e => hm (beq_iff_eq.1 e)), hj]; omega
        have n1 : ((((j + 1 : Nat) : Int)) == -1) = false := by rw [beq_eq_false_iff_ne]; omega
        have n2 : (((j : Nat) : Int) == -1) = false := by rw [beq_eq_false_iff_ne]; omega
        rw [hc, Nat.add_comm, Lib.splitK, hj, n2] at e1
        simp only [Bool.false_eq_true, if_false, Int.toNat_natCast, Nat.add_zero, List.length_cons, List.length_nil, Nat.zero_add] at e1
        injection e1 with e3 e4
        refine ⟨b :: h, t, ?_, fun acc => ?_⟩
        · rw [Lib.count_cons_ne b c l hb, hc, Nat.add_comm, Lib.splitK, hix', n1]
          simp only [Bool.false_eq_true, if_false, Int.toNat_natCast, Nat.add_zero, List.length_cons, List.length_nil, Nat.zero_add]
          rw [show j + 1 + 1 = (j + 1) + 1 from rfl, List.drop_succ_cons, List.take_succ_cons, e3, e4]
        · rw [spA, if_neg hb, e2]; simp
theorem spA_acc (c : UInt8) (l acc : List UInt8) : ∃ h t, spA c [] l = h :: t ∧ spA c acc l = (acc ++ h) :: t := by
  obtain ⟨h, t, _, e2⟩ := splitK_spA c l
  exact ⟨h, t, by rw [e2]; simp, e2 acc⟩
theorem back_bytes (x : ByteArray) : (⟨x.data.toList.toArray⟩ : ByteArray) = x := by cases x; simp
theorem splitB_spB (c : UInt8) (s : ByteArray) : Lib.splitB ⟨#[c]⟩ 0 (Lib.countB s ⟨#[c]⟩) s = spB c s := by
  have h := Lib.splitB_data ⟨#[c]⟩ 0 (Lib.countB s ⟨#[c]⟩) s
  have h2 := congrArg (List.map fun l : List UInt8 => (⟨l.toArray⟩ : ByteArray)) h
  rw [List.map_map] at h2
  have e : ((fun l : List UInt8 => (⟨l.toArray⟩ : ByteArray)) ∘ fun x : ByteArray => x.data.toList) = id := funext fun x => back_bytes x
  rw [e, List.map_id] at h2
  rw [h2]
  unfold spB
  obtain ⟨h, t, e1, e2⟩ := splitK_spA c s.data.toList
  have e3 : Lib.splitK [c] 0 (Lib.count s.data.toList [c]) s.data.toList = spA c [] s.data.toList := by rw [e1, e2]; simp
  exact congrArg _ e3
theorem spB_len (c : UInt8) (s : ByteArray) : (spB c s).length = Lib.countB s ⟨#[c]⟩ + 1 := by
  rw [← splitB_spB, Lib.splitB_all _ (show 1 ≤ (⟨#[c]⟩ : ByteArray).size from Nat.le_refl 1) 0 _ s rfl]
/-- Parts joined again. -/
def jnA (c : UInt8) : List (List UInt8) → List UInt8
  | [] => []
  | h :: t => h ++ t.flatMap fun x => c :: x
theorem jn_spA (c : UInt8) : ∀ (l acc : List UInt8), jnA c (spA c acc l) = acc ++ l
  | [], acc => by simp [spA, jnA]
  | b :: l, acc => by
    by_cases hb : b = c
    · subst hb
      obtain ⟨h, t, e1, _⟩ := spA_acc b l []
      have := jn_spA b l []
      rw [e1] at this
      rw [spA, if_pos rfl, e1]
      simp only [jnA, List.nil_append, List.flatMap_cons] at this ⊢
      rw [← this]
      simp
    · rw [spA, if_neg hb, jn_spA c l]; simp
theorem spA_ne (c : UInt8) (acc l : List UInt8) : spA c acc l ≠ [] := by
  obtain ⟨h, t, _, e⟩ := spA_acc c l acc
  rw [e]; simp
theorem spA_lt (c : UInt8) : ∀ (l acc : List UInt8) (p : List UInt8), p ∈ spA c acc l → p.length ≤ acc.length + l.length
  | [], acc, p, h => by simp [spA] at h; subst h; simp
  | b :: l, acc, p, h => by
    rw [spA] at h
    split at h
    · rcases List.mem_cons.1 h with rfl | h
      · simp
      · have := spA_lt c l [] p h
        simp at this ⊢; omega
    · have := spA_lt c l _ p h
      simp at this ⊢; omega

/-- The number that a word tells, with at most 18 digits and as it is written; none if it tells none. -/
def numB (w : ByteArray) : Option Int :=
  match Lib.parseIntB 64 w.data.toList with
  | .ok v => if decB v = w ∧ v.natAbs < 1000000000000000000 then some v else none
  | _ => none
theorem parse_dec : ∀ (k u : Nat), u ≤ k → u ≤ 18446744073709551615 → ∀ r, Lib.parseUintM 18446744073709551615 0 (Lib.decDigits u ++ r) = Lib.parseUintM 18446744073709551615 u r
  | 0, u, hk, hu, r => by
    obtain rfl : u = 0 := by omega
    rw [Lib.decDigits, dif_pos (by decide)]
    rfl
  | k + 1, u, hk, hu, r => by
    by_cases h : u < 10
    · rw [Lib.decDigits, dif_pos h, List.cons_append, List.nil_append, Lib.parseUintM]
      have e : (UInt8.ofNat (48 + u)).toNat = 48 + u := by simp; omega
      rw [e, if_pos ⟨by omega, by omega⟩, if_neg (by omega), if_neg (by omega)]
      congr 1
      omega
    · rw [Lib.decDigits, dif_neg h, List.append_assoc, parse_dec k (u / 10) (by omega) (by omega), List.cons_append, List.nil_append, Lib.parseUintM]
      have e : (UInt8.ofNat (48 + u % 10)).toNat = 48 + u % 10 := by simp; omega
      rw [e, if_pos ⟨by omega, by omega⟩, if_neg (by omega), if_neg (by omega)]
      congr 1
      omega
theorem dec_ne (u : Nat) : Lib.decDigits u ≠ [] := by
  rw [Lib.decDigits]
  split <;> simp
theorem dec_digit (u : Nat) : ∀ (k : Nat), u ≤ k → ∀ b ∈ Lib.decDigits u, 48 ≤ b.toNat ∧ b.toNat ≤ 57 := by
  intro k
  induction k generalizing u with
  | zero =>
    intro hk b hb
    obtain rfl : u = 0 := by omega
    rw [Lib.decDigits, dif_pos (by decide)] at hb
    simp at hb
    subst hb
    decide
  | succ k ih =>
    intro hk b hb
    rw [Lib.decDigits] at hb
    split at hb
    · simp at hb
      subst hb
      simp
      omega
    · rcases List.mem_append.1 hb with hb | hb
      · exact ih (u / 10) (by omega) b hb
      · simp at hb
        subst hb
        simp
        omega
theorem parse_decB {n : Int} (h0 : -9223372036854775808 ≤ n) (h1 : n ≤ 9223372036854775807) : Lib.parseIntB 64 (decB n).data.toList = .ok n := by
  have e64 : (2 : Nat) ^ (64 - 1) = 9223372036854775808 := by decide
  have eM : (2 : Nat) ^ 64 - 1 = 18446744073709551615 := by decide
  have key : ∀ u : Nat, u ≤ 18446744073709551615 → Lib.parseUintB 64 (Lib.decDigits u) = .ok u := fun u hu => by
    unfold Lib.parseUintB
    rw [if_neg (dec_ne u), eM]
    have := parse_dec u u (Nat.le_refl _) hu []
    rw [List.append_nil] at this
    rw [this]
    rfl
  show Lib.parseIntB 64 (Lib.itoa n).toArray.toList = .ok n
  rw [List.toList_toArray]
  unfold Lib.itoa
  by_cases hn : n < 0
  · rw [if_pos hn, Lib.parseIntB_minus, key _ (by omega), e64]
    simp only [Lib.signedC]
    rw [if_neg (by omega)]
    congr 1
    omega
  · rw [if_neg hn]
    obtain ⟨b, r, hbr⟩ : ∃ b r, Lib.decDigits n.toNat = b :: r := List.exists_cons_of_ne_nil (dec_ne _)
    have hb := dec_digit n.toNat _ (Nat.le_refl _) b (by rw [hbr]; simp)
    have hk := key n.toNat (by omega)
    rw [hbr] at hk ⊢
    rw [Lib.parseIntB_plain 64 b r (by omega) (by omega), hk, e64]
    simp only [Lib.signlessC]
    rw [if_neg (by omega)]
    congr 1
    omega
theorem numB_some {w : ByteArray} {n : Int} : numB w = some n ↔ decB n = w ∧ n.natAbs < 1000000000000000000 := by
  constructor
  · intro h
    unfold numB at h
    split at h
    · split at h
      · next v _ hv => injection h with h; subst h; exact hv
      · cases h
    · cases h
  · rintro ⟨rfl, h⟩
    unfold numB
    rw [parse_decB (by omega) (by omega)]
    simp [h]
theorem numB_bd {w : ByteArray} {n : Int} (h : numB w = some n) : -1000000000000000000 < n ∧ n < 1000000000000000000 := by
  have := (numB_some.1 h).2
  omega
theorem dec_data (n : Int) : (decB n).data.toList = (if n < 0 then [45] else []) ++ Lib.decDigits n.natAbs := by
  show (Lib.itoa n).toArray.toList = _
  rw [List.toList_toArray]
  unfold Lib.itoa
  by_cases h : n < 0
  · rw [if_pos h, if_pos h]; rfl
  · rw [if_neg h, if_neg h, show n.toNat = n.natAbs by omega]; rfl
theorem dec_len : ∀ (k u : Nat), u < 10 ^ (k + 1) → (Lib.decDigits u).length ≤ k + 1
  | 0, u, h => by rw [Lib.decDigits, dif_pos (by simpa using h)]; simp
  | k + 1, u, h => by
    rw [Lib.decDigits]
    split
    · simp
    · have := dec_len k (u / 10) (by rw [Nat.pow_succ] at h; omega)
      rw [List.length_append]
      simp
      omega
theorem dec_len_ge : ∀ (k u : Nat), 10 ^ k ≤ u → k + 1 ≤ (Lib.decDigits u).length
  | 0, u, h => by have := List.length_pos_iff.2 (dec_ne u); omega
  | k + 1, u, h => by
    have hp : 0 < 10 ^ k := Nat.pos_of_ne_zero (by simp)
    rw [Nat.pow_succ] at h
    rw [Lib.decDigits, dif_neg (by omega), List.length_append]
    have := dec_len_ge k (u / 10) (by omega)
    simp
    omega
/-- The numbers that words tell; none if one tells none. -/
def numsB : List ByteArray → Option (List Int)
  | [] => some []
  | w :: ws => match numB w with
    | none => none
    | some n => (numsB ws).map (n :: ·)
theorem nums_none {ws : List ByteArray} {k : Nat} {w : ByteArray} (hk : ws[k]? = some w) (h : numB w = none) : numsB ws = none := by
  induction ws generalizing k with
  | nil => simp at hk
  | cons x ws ih =>
    unfold numsB
    cases k with
    | zero =>
      simp at hk
      subst hk
      rw [h]
    | succ k =>
      rw [ih (k := k) (by simpa using hk)]
      cases numB x <;> rfl
theorem nums_take {ws : List ByteArray} {k : Nat} {w : ByteArray} {ns : List Int} {n : Int} (h : numsB (ws.take k) = some ns) (hk : ws[k]? = some w) (hn : numB w = some n) : numsB (ws.take (k + 1)) = some (ns ++ [n]) := by
  induction ws generalizing k ns with
  | nil => simp at hk
  | cons x ws ih =>
    cases k with
    | zero =>
      simp at hk
      subst hk
      simp [numsB] at h
      subst h
      simp [numsB, hn]
    | succ k =>
      rw [List.take_succ_cons, numsB] at h ⊢
      cases hx : numB x with
      | none => rw [hx] at h; cases h
      | some m =>
        rw [hx] at h
        simp only at h ⊢
        cases hr : numsB (ws.take k) with
        | none => rw [hr] at h; cases h
        | some rs =>
          rw [hr] at h
          simp only [Option.map_some, Option.some.injEq] at h
          subst h
          rw [ih hr (by simpa using hk)]
          rfl
theorem nums_len {ws : List ByteArray} {ns : List Int} (h : numsB ws = some ns) : ns.length = ws.length := by
  induction ws generalizing ns with
  | nil => simp [numsB] at h; subst h; rfl
  | cons x ws ih =>
    rw [numsB] at h
    cases hx : numB x with
    | none => rw [hx] at h; cases h
    | some m =>
      rw [hx] at h
      simp only at h
      cases hr : numsB ws with
      | none => rw [hr] at h; cases h
      | some rs =>
        rw [hr] at h
        simp only [Option.map_some, Option.some.injEq] at h
        subst h
        simp [ih hr]
theorem nums_bd {ws : List ByteArray} {ns : List Int} (h : numsB ws = some ns) : ∀ n ∈ ns, -1000000000000000000 < n ∧ n < 1000000000000000000 := by
  induction ws generalizing ns with
  | nil => simp [numsB] at h; subst h; simp
  | cons x ws ih =>
    rw [numsB] at h
    cases hx : numB x with
    | none => rw [hx] at h; cases h
    | some m =>
      rw [hx] at h
      simp only at h
      cases hr : numsB ws with
      | none => rw [hr] at h; cases h
      | some rs =>
        rw [hr] at h
        simp only [Option.map_some, Option.some.injEq] at h
        subst h
        intro n hn
        rcases List.mem_cons.1 hn with rfl | hn
        · exact numB_bd hx
        · exact ih hr n hn
/-- Words that tell numbers are these numbers' texts. -/
theorem nums_text {ws : List ByteArray} {ns : List Int} (h : numsB ws = some ns) : ws = ns.map decB := by
  induction ws generalizing ns with
  | nil => simp [numsB] at h; subst h; rfl
  | cons x ws ih =>
    rw [numsB] at h
    cases hx : numB x with
    | none => rw [hx] at h; cases h
    | some m =>
      rw [hx] at h
      simp only at h
      cases hr : numsB ws with
      | none => rw [hr] at h; cases h
      | some rs =>
        rw [hr] at h
        simp only [Option.map_some, Option.some.injEq] at h
        subst h
        rw [List.map_cons, ← ih hr, (numB_some.1 hx).1]
/-- The value of digits, behind what is read; none if one is none. -/
def vlA : Nat → List UInt8 → Option Nat
  | u, [] => some u
  | u, b :: l => if 48 ≤ b.toNat ∧ b.toNat ≤ 57 then vlA (10 * u + (b.toNat - 48)) l else none
theorem vlA_dec : ∀ (k u : Nat), u ≤ k → ∀ r, vlA 0 (Lib.decDigits u ++ r) = vlA u r
  | 0, u, hk, r => by
    obtain rfl : u = 0 := by omega
    rw [Lib.decDigits, dif_pos (by decide)]
    rfl
  | k + 1, u, hk, r => by
    by_cases h : u < 10
    · rw [Lib.decDigits, dif_pos h, List.cons_append, List.nil_append, vlA]
      have e : (UInt8.ofNat (48 + u)).toNat = 48 + u := by simp; omega
      rw [e, if_pos ⟨by omega, by omega⟩]
      congr 1
      omega
    · rw [Lib.decDigits, dif_neg h, List.append_assoc, vlA_dec k (u / 10) (by omega), List.cons_append, List.nil_append, vlA]
      have e : (UInt8.ofNat (48 + u % 10)).toNat = 48 + u % 10 := by simp; omega
      rw [e, if_pos ⟨by omega, by omega⟩]
      congr 1
      omega
theorem vlA_bd : ∀ (l : List UInt8) (u v : Nat), vlA u l = some v → v < (u + 1) * 10 ^ l.length
  | [], u, v, h => by
    simp only [vlA, Option.some.injEq] at h
    subst h
    simp
  | b :: l, u, v, h => by
    rw [vlA] at h
    split at h
    · next hb =>
      have := vlA_bd l _ v h
      have e : (10 * u + (b.toNat - 48) + 1) * 10 ^ l.length ≤ (u + 1) * 10 ^ (b :: l).length := by
        rw [List.length_cons, Nat.pow_succ, Nat.mul_comm (10 ^ l.length) 10, ← Nat.mul_assoc]
        exact Nat.mul_le_mul_right _ (by omega)
      omega
    · cases h
theorem vlA_step {l : List UInt8} {k : Nat} {b : UInt8} {u : Nat} (h : l[k]? = some b) : vlA u (l.drop k) = if 48 ≤ b.toNat ∧ b.toNat ≤ 57 then vlA (10 * u + (b.toNat - 48)) (l.drop (k + 1)) else none := by
  obtain ⟨h1, h2⟩ := List.getElem?_eq_some_iff.1 h
  rw [List.drop_eq_getElem_cons h1, h2]; rfl
theorem vlA_end {l : List UInt8} {k : Nat} {u : Nat} (h : ¬ k < l.length) : vlA u (l.drop k) = some u := by
  rw [List.drop_eq_nil_of_le (by omega)]; rfl
/-- A text without its sign. -/
def CutS (s T : ByteArray) (neg : Bool) : Prop := if neg = true then s.data.toList = 45 :: T.data.toList else s.data.toList = T.data.toList ∧ T.data.toList.head? ≠ some 45
theorem num_T {s T : ByteArray} {neg : Bool} {m : Int} (h : CutS s T neg) (hm : numB s = some m) : T.data.toList = Lib.decDigits m.natAbs ∧ (neg = true ↔ m < 0) := by
  have hd := dec_data m
  rw [(numB_some.1 hm).1] at hd
  unfold CutS at h
  have hh : (Lib.decDigits m.natAbs).head? ≠ some 45 := fun e => by
    have := dec_digit m.natAbs _ (Nat.le_refl _) 45 (List.mem_of_mem_head? e)
    simp at this
  cases neg
  · simp only [Bool.false_eq_true, if_false] at h
    by_cases hn : m < 0
    · rw [if_pos hn, h.1] at hd
      exact absurd (by rw [hd]; rfl) h.2
    · rw [if_neg hn, h.1] at hd
      exact ⟨hd, by simp; omega⟩
  · simp only [if_true] at h
    by_cases hn : m < 0
    · rw [if_pos hn, h] at hd
      simp at hd
      exact ⟨hd, by simp; omega⟩
    · rw [if_neg hn, h] at hd
      exact absurd (by rw [← List.nil_append (Lib.decDigits _), ← hd]; rfl) hh
theorem size_list (s : ByteArray) : s.data.toList.length = s.size := by cases s; rfl
theorem num_no {s T : ByteArray} {neg : Bool} (h : CutS s T neg) (hz : T.size = 0 ∨ 18 < T.size) : numB s = none := by
  cases hm : numB s with
  | none => rfl
  | some m =>
    have h1 := (num_T h hm).1
    have h2 := (numB_some.1 hm).2
    have h3 := dec_len 17 m.natAbs (by simpa using h2)
    have h4 := List.length_pos_iff.2 (dec_ne m.natAbs)
    rw [← h1, size_list] at h3 h4
    omega
theorem num_bad {s T : ByteArray} {neg : Bool} (h : CutS s T neg) (hR : vlA 0 T.data.toList = none) : numB s = none := by
  cases hm : numB s with
  | none => rfl
  | some m =>
    have h1 := (num_T h hm).1
    have := vlA_dec m.natAbs m.natAbs (Nat.le_refl _) []
    rw [List.append_nil, ← h1, hR] at this
    cases this
theorem num_val {s T : ByteArray} {neg : Bool} {u : Nat} {n : Int} (h : CutS s T neg) (hs : T.size ≤ 18) (hR : vlA 0 T.data.toList = some u) (hn : n = if neg = true then -(u : Int) else u) : numB s = if decB n = s then some n else none := by
  have hb := vlA_bd _ _ _ hR
  rw [size_list] at hb
  have hp : (10 : Nat) ^ T.size ≤ 10 ^ 18 := Nat.pow_le_pow_right (by decide) hs
  have e18 : (10 : Nat) ^ 18 = 1000000000000000000 := by decide
  by_cases hd : decB n = s
  · rw [if_pos hd]
    refine numB_some.2 ⟨hd, ?_⟩
    subst hn
    split <;> omega
  · rw [if_neg hd]
    cases hm : numB s with
    | none => rfl
    | some m =>
      obtain ⟨h1, h2⟩ := num_T h hm
      have hv := vlA_dec m.natAbs m.natAbs (Nat.le_refl _) []
      rw [List.append_nil, ← h1, hR] at hv
      simp only [vlA, Option.some.injEq] at hv
      exfalso
      refine hd ?_
      have e : n = m := by
        rw [hn]
        cases neg
        · simp at h2 ⊢; omega
        · simp at h2 ⊢; omega
      rw [e]
      exact (numB_some.1 hm).1
theorem head_list {s : ByteArray} (h : 0 < s.size) : s.data.toList = s[0] :: s.data.toList.drop 1 := by
  have hl := size_list s
  have := List.drop_eq_getElem_cons (l := s.data.toList) (i := 0) (by omega)
  rw [List.drop_zero] at this
  exact this
theorem ext_list (s : ByteArray) (a b : Nat) : (s.extract a b).data.toList = (s.data.toList.drop a).take (b - a) := by
  rw [Lib.extract_data]
theorem cut_neg {s : ByteArray} (h : 0 < s.size) (h45 : s[0] = 45) : CutS s (s.extract 1 s.size) true ∧ (s.extract 1 s.size).size = s.size - 1 ∧ Lib.trimPrefix s.data.toList [45] = (s.extract 1 s.size).data.toList := by
  have hl := size_list s
  have e : (s.extract 1 s.size).data.toList = s.data.toList.drop 1 := by
    rw [ext_list, List.take_of_length_le (by rw [List.length_drop]; omega)]
  have hh := head_list h
  rw [h45] at hh
  refine ⟨by unfold CutS; rw [if_pos rfl, e]; exact hh, by rw [← size_list, e, List.length_drop]; omega, ?_⟩
  unfold Lib.trimPrefix Lib.hasPrefix
  rw [e, if_pos (by rw [hh]; rfl)]
  rfl
theorem cut_pos {s : ByteArray} (h : ∀ h : 0 < s.size, s[0] ≠ 45) : CutS s s false ∧ Lib.trimPrefix s.data.toList [45] = s.data.toList := by
  have hh : s.data.toList.head? ≠ some 45 := fun e => by
    rcases Nat.eq_zero_or_pos s.size with h0 | h0
    · have e0 : s.data.toList = [] := List.eq_nil_of_length_eq_zero (by rw [size_list]; omega)
      rw [e0] at e
      cases e
    · rw [head_list h0] at e
      exact h h0 (Option.some.inj e)
  refine ⟨by unfold CutS; rw [if_neg (by decide)]; exact ⟨rfl, hh⟩, ?_⟩
  unfold Lib.trimPrefix Lib.hasPrefix
  rw [if_neg]
  intro e
  cases hl : s.data.toList with
  | nil => rw [hl] at e; cases e
  | cons b l =>
    rw [hl] at e hh
    simp [List.isPrefixOf] at e hh
    exact hh e.symm
/-- What the number of a word is for a walk: the number, and whether there is one. -/
def numN (s : ByteArray) : Int := (numB s).getD 0
def numK (s : ByteArray) : Bool := (numB s).isSome
theorem num_none_ {s : ByteArray} (h : numB s = none) : numN s = 0 ∧ numK s = false := by unfold numN numK; rw [h]; exact ⟨rfl, rfl⟩
theorem num_some_ {s : ByteArray} {n : Int} (h : numB s = some n) : numN s = n ∧ numK s = true := by unfold numN numK; rw [h]; exact ⟨rfl, rfl⟩
theorem num_bd_ (s : ByteArray) : -1000000000000000000 < numN s ∧ numN s < 1000000000000000000 := by
  cases h : numB s with
  | none => rw [(num_none_ h).1]; omega
  | some n => rw [(num_some_ h).1]; exact numB_bd h
theorem num_of {s : ByteArray} (h : numK s = true) : numB s = some (numN s) := by
  unfold numK at h
  unfold numN
  cases e : numB s with
  | none => rw [e] at h; cases h
  | some n => rfl
theorem num_not {s : ByteArray} (h : numK s = false) : numB s = none := by
  unfold numK at h
  cases e : numB s with
  | none => rfl
  | some n => rw [e] at h; cases h
theorem spB_ne (c : UInt8) (s : ByteArray) : ∃ w ws, spB c s = w :: ws := by
  unfold spB
  cases hsp : spA c [] s.data.toList with
  | nil => exact absurd hsp (spA_ne _ _ _)
  | cons p ps => exact ⟨_, _, rfl⟩
theorem spB_sz {c : UInt8} {s p : ByteArray} (h : p ∈ spB c s) : p.size ≤ s.size := by
  unfold spB at h
  obtain ⟨l, h1, rfl⟩ := List.mem_map.1 h
  have := spA_lt c _ _ l h1
  have hl := size_list s
  show l.toArray.size ≤ _
  simp at this ⊢
  omega
theorem spB_count (c : UInt8) (s : ByteArray) : (spB c s).length ≤ s.size + 1 := by
  rw [spB_len]
  have := Lib.countB_le ⟨#[c]⟩ (Nat.le_refl 1) s.size s (Nat.le_refl _)
  omega
end Go.Proofs.YtbcikkaoohihhaaGreatDoor

/- An append to a slice of the call's own: what the slice held stands where it stood. No condition but those that each theorem names. -/
namespace Go.Proofs.YtbcikkaoohihhaaGreatDoor
open Go.RowKit Go.Sort

theorem own_at {w : World} {base s n : Nat} {e : TypeId} {v : Value} {xs : List Value} (h : w.ownsRow base e s v n xs) (h0 : 0 < n) : ∃ g cap, v = .slice (some ⟨g, 0, none⟩) n cap ∧ base ≤ g ∧ g < w.heap.size ∧ n ≤ cap ∧ cap ≤ maxLen ∧ ∀ j x, xs[j]? = some x → w.cell? ⟨g, j, none⟩ = some x := by
  rcases h.2 with ⟨rfl, h1⟩ | ⟨g, cap, cur, rfl, hg, hh, hc, hm, hs, ht⟩
  · omega
  · refine ⟨g, cap, rfl, hg, (Array.getElem?_eq_some_iff.1 hh).1, hc, hm, fun j x hx => ?_⟩
    have := h.cells (g := g) rfl j _ hx
    have ea : (⟨g, 0, none⟩ : Addr).add j = ⟨g, 0 + j, none⟩ := by
      unfold Addr.add
      by_cases hj : j = 0 <;> simp [hj]
    rw [ea, Nat.zero_add] at this
    exact this
theorem add_plainK (g j : Nat) : (⟨g, 0, none⟩ : Addr).add j = ⟨g, j, none⟩ := by
  unfold Addr.add
  by_cases hj : j = 0 <;> simp [hj]

theorem own_cells {w : World} {base s n g cap : Nat} {e : TypeId} {xs : List Value} (h : w.ownsRow base e s (.slice (some ⟨g, 0, none⟩) n cap) n xs) {j : Nat} {x : Value} (hx : xs[j]? = some x) : w.cell? ⟨g, j, none⟩ = some x := by
  have := h.cells (g := g) rfl j x hx
  rwa [add_plainK] at this
section
variable {P : Program} (w : World)
theorem run_append_keep (t ty : TypeId) (base : Nat) (e : TypeId) (i : TypeInfo) (z : Value) (size bytes : Nat) (ht : P.underlying t = some (.slice e)) (hi : P.info? e = some i) (hz : i.zero = some z)
    (hsize : i.size = size) (hby : i.bytes = bytes) (hzs : z.cells.size = size) (hsz : 0 < size)
    (g0 c0 n : Nat) (xs : List Value) (hown : w.ownsRow base e size (.slice (some ⟨g0, 0, none⟩) n c0) n xs)
    (ad : Addr) (m c : Nat) (news : List Value) (hl : news.length = m * size) (hnews : ∀ j u, news[j]? = some u → w.cell? (ad.add j) = some u) (h1 : ∀ u ∈ news, u.oneCell' = true)
    (hm : 0 < m) (h63 : n + m ≤ maxLen) (hbytes : (n + m) * bytes ≤ 140737488355328) (hbase : base ≤ w.heap.size) :
    ∃ g cap w', (Builtin.append_ #[t, t] ty #[.slice (some ⟨g0, 0, none⟩) n c0, .slice (some ad) m c]).run P w = .ok (.slice (some ⟨g, 0, none⟩) (n + m) cap) w' ∧
      w'.ownsRow base e size (.slice (some ⟨g, 0, none⟩) (n + m) cap) (n + m) (xs ++ news) ∧ w.grownBy w' (some g0) ∧ (g = g0 ∨ g = w.heap.size) ∧ g < w'.heap.size ∧ ∀ j x, xs[j]? = some x → w'.cell? ⟨g0, j, none⟩ = some x := by
  obtain ⟨g, cap, w', hr, h2, h3, h4, h5⟩ := run_append_lies (P := P) w t ty base e i z size bytes ht hi hz hsize hby hzs hsz _ n xs hown ad m c news hl hnews h1 hm h63 hbytes hbase _ rfl
  have h4' : g = g0 ∨ g = w.heap.size := by
    rcases h4 with h | h
    · left; have : some g0 = some g := h; injection this with this; exact this.symm
    · exact .inr h
  refine ⟨g, cap, w', hr, h2, h3, h4', h5, ?_⟩
  have hcells : ∀ j x, xs[j]? = some x → w.cell? ⟨g0, j, none⟩ = some x := fun j x hx => by
    have := hown.cells (g := g0) rfl j x hx
    rwa [add_plainK] at this
  have hg0 : g0 < w.heap.size := (hown.lt g0 rfl).2
  intro j x hx
  have hj : j < xs.length := (List.getElem?_eq_some_iff.1 hx).1
  subst hsize
  by_cases hroom : n + m ≤ c0
  · have hg : g = g0 := by
      rcases hown.2 with ⟨hc, _⟩ | ⟨g', cap', cur, hv, hbg, hgg, hnc, hcm, hcs, htake⟩
      · cases hc
      · injection hv with e1 e2 e3
        injection e1 with e1
        injection e1 with e1
        subst e1; subst e3
        have hfit : n * i.size + news.length ≤ cur.size := by rw [hl, hcs, ← Nat.add_mul]; exact Nat.mul_le_mul_right _ hroom
        have hrr := run_append_room (P := P) w t ty e i ht hi g0 n c0 cur hgg ad m c news hl hnews h1 hroom hfit
        rw [hr] at hrr
        injection hrr with e1
        injection e1 with e1
        injection e1 with e1
        injection e1
    subst hg
    have := h2.cells (g := g) rfl j x (by rw [List.getElem?_append_left hj]; exact hx)
    rwa [add_plainK] at this
  · have hlo : xs.length = n * i.size := hown.1
    have hrr := run_append_grow (P := P) w t ty e i z ht hi hz ⟨g0, 0, none⟩ n c0 xs hlo (fun j u hu => by rw [add_plainK]; exact hcells j u hu) ad m c news hl hnews (by omega) (by unfold maxLen at h63; omega) (growslice_fits (by omega) (by rw [hby]; exact hbytes))
    rw [hr] at hrr
    injection hrr with _ e2
    rw [e2]
    exact (World.cell?_alloc_lt _ _ _ (by simpa using hg0)).trans (hcells j x hx)

theorem step_append_keep {ops : Array Oper} {o : Oper} {a : Act} {K : Act → World → Prop} {Q : Exit → Act → World → Prop} {E : Prop} (hgd : o.guard = none) (s x : Operand) (t : TypeId)
    (ho : o.op = .call { callee := .builtin .append, args := #[s, x], argTypes := #[t, t] })
    (base : Nat) (e : TypeId) (i : TypeInfo) (z : Value) (size bytes : Nat) (ht : P.underlying t = some (.slice e)) (hi : P.info? e = some i) (hz : i.zero = some z)
    (hsize : i.size = size) (hby : i.bytes = bytes) (hzs : z.cells.size = size) (hsz : 0 < size)
    (g0 c0 n : Nat) (xs : List Value) (hs : a.eval s = .slice (some ⟨g0, 0, none⟩) n c0) (hown : w.ownsRow base e size (.slice (some ⟨g0, 0, none⟩) n c0) n xs)
    (ad : Addr) (m c : Nat) (news : List Value) (hx : a.eval x = .slice (some ad) m c) (hl : news.length = m * size) (hnews : ∀ j u, news[j]? = some u → w.cell? (ad.add j) = some u) (h1 : ∀ u ∈ news, u.oneCell' = true)
    (hm : 0 < m) (h63 : n + m ≤ maxLen) (hbytes : (n + m) * bytes ≤ 140737488355328) (hbase : base ≤ w.heap.size)
    (h : ∀ g cap w', w'.ownsRow base e size (.slice (some ⟨g, 0, none⟩) (n + m) cap) (n + m) (xs ++ news) → w.grownBy w' (some g0) → (g = g0 ∨ g = w.heap.size) → g < w'.heap.size → (∀ j x, xs[j]? = some x → w'.cell? ⟨g0, j, none⟩ = some x) → K (a.put o.dst (.slice (some ⟨g, 0, none⟩) (n + m) cap)) w') :
    if Region.wanted o (yielded ops a.tmps) = true then Oper.wp P o a w K Q else E := by
  have hw : Region.wanted o (yielded ops a.tmps) = true := by simp [Region.wanted, hgd]
  rw [if_pos hw]
  obtain ⟨g, cap, w', hr, h2, h3, h4, h5, h6⟩ := run_append_keep (P := P) w t o.type base e i z size bytes ht hi hz hsize hby hzs hsz g0 c0 n xs hown ad m c news hl hnews h1 hm h63 hbytes hbase
  unfold Oper.wp execOp
  simp only [ho, resolve, invoke, builtin, Sem.run_bind, Sem.run_pure, Result.andThen_ok, List.map_toArray, List.map_cons, List.map_nil, hs, hx, hr]
  exact h g cap w' h2 h3 h4 h5 h6
end
end Go.Proofs.YtbcikkaoohihhaaGreatDoor

/- Numbers in decimal: both walks. No condition but those that each theorem names. -/
namespace Go.Proofs.YtbcikkaoohihhaaGreatDoor
open Go.RowKit Go.Sort

/-- The table of the powers of ten lies in memory. -/
def Tab10 (w : World) : Prop := Lib.TabIs Tryz.prog w "internal/strconv.uint64pow10" .u64 Lib.pow10Tab
theorem Tab10.next {w W : World} (h : Tab10 w) (hb : Below w.heap.size w W) : Tab10 W := Lib.tabBelow_of_tabIs h W hb
theorem iDecimal_any (n : Int) (w : World) (n1 : -9223372036854775808 ≤ n) (n2 : n ≤ 9223372036854775807) (h : Tab10 w) :
    Calls Tryz.prog 108 #[.int .i64 n] w fun e w' => e = .returned (.string (decB n)) ∧ Below w.heap.size w w' := by
  have HF : Hid (Calls Tryz.prog 150 #[.int .i64 n, .int .i64 10] w fun e w' => e = .returned (.string (decB n)) ∧ Below w.heap.size w w') := by
    refine (Tryz.strconv_FormatInt_10 n n1 n2 w h).mono ?_
    rintro e w' ⟨rfl, k, os, rfl⟩
    exact ⟨rfl, Lib.below_grow _ w (Nat.le_refl _) k os⟩
  generalize decB n = d at *
  clear h n1 n2
  go_enter Tryz.func108, Tryz.ntmps108
  go_wp2_with fail
  refine HF.out.mono ?_
  rintro e w1 ⟨rfl, hb⟩
  go_wp2
  go_ret
  exact ⟨rfl, hb⟩
theorem tm_eqs (k : Int) (h1 : -9223372036854775808 ≤ k) (h2 : k ≤ 9223372036854775807) : ∃ D K : Int, k.tmod 10 = D ∧ k.tdiv 10 = K ∧ (D.natAbs = k.natAbs % 10) ∧ K.natAbs = k.natAbs / 10 ∧ -9 ≤ D ∧ D ≤ 9 ∧ -922337203685477580 ≤ K ∧ K ≤ 922337203685477580 := by
  refine ⟨_, _, rfl, rfl, by rw [Int.natAbs_tmod]; rfl, by rw [Int.natAbs_tdiv]; rfl, ?_, ?_, ?_, ?_⟩
  all_goals
    have e1 : (k.tmod 10).natAbs = k.natAbs % 10 := by rw [Int.natAbs_tmod]; rfl
    have e2 : (k.tdiv 10).natAbs = k.natAbs / 10 := by rw [Int.natAbs_tdiv]; rfl
    omega
set_option maxRecDepth 100000 in
set_option maxHeartbeats 4000000 in
theorem l01Dec_any (n : Int) (w : World) (n1 : -9223372036854775808 ≤ n) (n2 : n ≤ 9223372036854775807) :
    Calls Tryz.prog 152 #[.int .i64 n] w fun e w' => e = .returned (.string (decB n)) ∧ Below w.heap.size w w' := by
  obtain ⟨ti, hi, hz0, hz1, hz2⟩ := info_parts info8
  have HI := Lib.hid hi
  have hlen := dg0_len 20 n.natAbs (by have : (10 : Nat) ^ 20 = 100000000000000000000 := by decide
                                       omega)
  have HBY := Lib.hid (dg0_byte n.natAbs n.natAbs (Nat.le_refl _))
  have H0 : Hid (n ≠ 0 → 0 < (dg0 n.natAbs).length) := fun h => dg0_ne (by omega)
  have HZ : Hid (n = 0 → dg0 n.natAbs = []) := fun h => by rw [h]; exact dg0_zero
  have HD : Hid ((n = 0 → decB n = ⟨#[48]⟩) ∧ (0 < n → decB n = byS (dg0 n.natAbs)) ∧ (n < 0 → decB n = ⟨#[45]⟩ ++ byS (dg0 n.natAbs))) := ⟨fun h => by rw [h]; exact decB_zero, decB_pos, decB_neg⟩
  obtain ⟨R, hR⟩ : ∃ R, dg0 n.natAbs = R := ⟨_, rfl⟩
  rw [hR] at hlen HBY H0 HZ HD
  have HR := Lib.hid hR
  have O : Hid (OutB w w.heap.size [] (.slice (some ⟨w.heap.size, 0, none⟩) 0 0) (w.alloc (.cells #[] 5))) := by
    refine ⟨?_, ext1 _ _, by simp⟩
    have h := World.ownsRow_lit (base := w.heap.size) (e := 5) (size := 1) w #[] 0 (Nat.le_refl _) (by unfold maxLen; omega) rfl
    simpa using h
  generalize decB n = d at *
  clear hi hR
  go_enter Tryz.func152, Tryz.ntmps152
  go_wp2_with fail
  go_loopw [3, 4, 5] (fun v t u wr => ∃ (k : Int) (out : List Int) (g c : Nat), t = .int .i64 k ∧ v = .slice (some ⟨g, 0, none⟩) out.length c ∧ -9223372036854775808 ≤ k ∧ k ≤ 9223372036854775807 ∧ Hid (dg0 k.natAbs ++ out = R) ∧ Hid (OutB w w.heap.size out v wr)) (fun _ t _ _ => (intOf t).natAbs)
  case atStart => exact ⟨n, [], w.heap.size, 0, rfl, rfl, n1, n2, by unfold Hid; rw [List.append_nil]; exact HR.out, O.out⟩
  case round =>
    obtain ⟨k, out, g, c, rfl, rfl, k1, k2, HK, HO⟩ := hrel
    clear O
    by_cases hk : k = 0
    · have hRe : Hid (R = out) := by
        have h := HK.out
        rw [hk, show (0 : Int).natAbs = 0 from rfl, dg0_zero, List.nil_append] at h
        exact h.symm
      have hH := HO.out
      rw [← hRe.out] at hH
      have HO2 := Lib.hid hH
      have hlr : R.length = out.length := by rw [hRe.out]
      have HLR := Lib.hid hlr
      rw [← HLR.out]
      clear hH HO HK
      by_cases hn : n = 0
      · have e0 : R = [] := HZ.out hn
        have e1 : d = ⟨#[48]⟩ := HD.out.1 hn
        subst e0 e1
        have HB2 := Lib.hid HO2.out.2.1
        clear HD HZ H0 HBY hRe hlr HLR HO2
        simp only [List.length_nil]
        go_wp2
        go_ret
        exact ⟨rfl, HB2.out⟩
      · have hp := H0.out hn
        have hp1 : ((R.length : Int) == 0) = false := by rw [beq_eq_false_iff_ne]; omega
        have HB2 := Lib.hid HO2.out.2.1
        obtain ⟨_, A2, c2, e2, hw⟩ := Wr.of_own HO2.out.1
        injection e2 with e3 e4 e5
        subst e3
        have hcv := conv_bytes (c := c2) hw.rd HBY.out hp
        have hzs : (byS R).size ≤ 20 := by rw [byS_size]; exact hlen
        rcases Int.lt_or_gt_of_ne hn with h | h
        · have e1 := HD.out.2.2 h
          generalize byS R = Z at *
          have HE := Lib.hid e1
          clear HD HZ H0 HBY hRe hlr HLR HO2 hw hp
          go_wp2
          go_ret
          exact ⟨rfl, HB2.out⟩
        · have e1 := HD.out.2.1 h
          have hn2 : ¬ n < 0 := by omega
          generalize byS R = Z at *
          have HE := Lib.hid e1
          clear HD HZ H0 HBY hRe hlr HLR HO2 hw hp
          go_wp2
          go_ret
          exact ⟨rfl, HB2.out⟩
    · obtain ⟨D, K, hD1, hK1, d1, q1, d2, d3, q2, q3⟩ := tm_eqs k k1 k2
      obtain ⟨m, hm⟩ : ∃ m : Nat, k.natAbs % 10 = m := ⟨_, rfl⟩
      have hm9 : m ≤ 9 := by omega
      have HKK : Hid (dg0 K.natAbs ++ ((48 + (m : Int)) :: out) = R) := by
        have h := HK.out
        rw [dg0_pos (by omega), hm, List.append_assoc] at h
        unfold Hid
        rw [q1]
        exact h
      have hlo : out.length + 1 ≤ 20 := by
        have h := congrArg List.length HKK.out
        rw [List.length_append, List.length_cons] at h
        omega
      have hkK : K.natAbs < k.natAbs := by omega
      have HKL := Lib.hid hkK
      have v1 : IntKind.i64.wrap (48 + (m : Int)) = 48 + (m : Int) := IntWalk.i64_in _ (by omega)
      have v2 : IntKind.u8.wrap (48 + (m : Int)) = 48 + (m : Int) := by simp [IntKind.wrap, IntKind.bits, IntKind.signed]; omega
      have HRD : Hid (∀ j u, (out.map (Value.int .u8))[j]? = some u → (wr.alloc (.cells #[.int .u8 (48 + (m : Int))] 5)).cell? ((⟨g, 0, none⟩ : Addr).add j) = some u) := fun j u hu => by
        have hh := own_below HO.out.1 (ext1 wr (.cells #[.int .u8 (48 + (m : Int))] 5))
        exact hh.cells (g := g) rfl j u hu
      have hownL : World.ownsRow (wr.alloc (.cells #[.int .u8 (48 + (m : Int))] 5)) w.heap.size 5 1 (.slice (some ⟨wr.heap.size, 0, none⟩) 1 1) 1 [.int .u8 (48 + (m : Int))] := by
        have h := World.ownsRow_lit (base := w.heap.size) (e := 5) (size := 1) wr #[.int .u8 (48 + (m : Int))] 1 HO.out.2.2 (by unfold maxLen; omega) rfl
        simpa using h
      have HBE : Hid (Below w.heap.size w (wr.alloc (.cells #[.int .u8 (48 + (m : Int))] 5))) := ext_alloc HO.out.2.1 _
      have hbz := HO.out.2.2
      have HOWN := Lib.hid hownL
      have kne : (k != 0) = true := by simpa using hk
      have w2 : IntKind.i64.wrap K = K := IntWalk.i64_in _ (by omega)
      by_cases hneg : D < 0
      · have v3 : IntKind.i64.wrap (-D) = -D := IntWalk.i64_in _ (by omega)
        have v4 : -D = (m : Int) := by omega
        clear hk d1 q1 hm
        go_wp2_with (at_builtin; refine wpList_append_own _ rfl _ _ 28 rfl w.heap.size 5 ti (.int .u8 0) 1 1 Tryz.underlying28 HI.out hz0 hz1 hz2 rfl (by decide) _ _ _ rfl HOWN.out ⟨g, 0, none⟩ out.length c (out.map (Value.int .u8)) rfl (by simp) HRD.out ?c1 ?c3 ?c4 ?c5 ?_)
        case c1 => intro u hu; first | rfl | (obtain ⟨y, _, rfl⟩ := List.mem_map.1 hu; rfl)
        case c3 => unfold maxLen; omega
        case c4 => omega
        case c5 => (try simp only [World.size_alloc]); omega
        intro v' w3 hown3 hgrow _
        have HV3 : Hid (OutB w w.heap.size ((48 + (m : Int)) :: out) v' w3) := by
          refine ⟨?_, below_grown HBE.out HOWN.out (Nat.le_refl _) hgrow, ?_⟩
          · rw [List.length_cons, Nat.add_comm out.length]
            exact hown3
          · have := hgrow.size
            simp only [World.size_alloc] at this
            omega
        obtain ⟨g3, c3, rfl, _⟩ := own_at HV3.out.1 (by simp)
        have HLC : Hid (((48 + (m : Int)) :: out).length = out.length + 1) := rfl
        clear hown3 hgrow HRD HOWN hownL HBE HO HK
        go_wp2
        go_roundw
        case rel => exact ⟨K, (48 + (m : Int)) :: out, g3, c3, rfl, rfl, by omega, by omega, HKK.out, HV3.out⟩
        case measure => simp [intOf]; exact HKL.out
      · have v4 : D = (m : Int) := by omega
        clear hk d1 q1 hm
        go_wp2_with (at_builtin; refine wpList_append_own _ rfl _ _ 28 rfl w.heap.size 5 ti (.int .u8 0) 1 1 Tryz.underlying28 HI.out hz0 hz1 hz2 rfl (by decide) _ _ _ rfl HOWN.out ⟨g, 0, none⟩ out.length c (out.map (Value.int .u8)) rfl (by simp) HRD.out ?c1 ?c3 ?c4 ?c5 ?_)
        case c1 => intro u hu; first | rfl | (obtain ⟨y, _, rfl⟩ := List.mem_map.1 hu; rfl)
        case c3 => unfold maxLen; omega
        case c4 => omega
        case c5 => (try simp only [World.size_alloc]); omega
        intro v' w3 hown3 hgrow _
        have HV3 : Hid (OutB w w.heap.size ((48 + (m : Int)) :: out) v' w3) := by
          refine ⟨?_, below_grown HBE.out HOWN.out (Nat.le_refl _) hgrow, ?_⟩
          · rw [List.length_cons, Nat.add_comm out.length]
            exact hown3
          · have := hgrow.size
            simp only [World.size_alloc] at this
            omega
        obtain ⟨g3, c3, rfl, _⟩ := own_at HV3.out.1 (by simp)
        have HLC : Hid (((48 + (m : Int)) :: out).length = out.length + 1) := rfl
        clear hown3 hgrow HRD HOWN hownL HBE HO HK
        go_wp2
        go_roundw
        case rel => exact ⟨K, (48 + (m : Int)) :: out, g3, c3, rfl, rfl, by omega, by omega, HKK.out, HV3.out⟩
        case measure => simp [intOf]; exact HKL.out
end Go.Proofs.YtbcikkaoohihhaaGreatDoor

/- Slices of named terms: how they read; the statements' own measuring, copying and comparing of them. No condition but those that each theorem names. -/
namespace Go.Proofs.YtbcikkaoohihhaaGreatDoor
open Go.RowKit Go.Sort

/-- A name with its terms. -/
structure Nd where
  name : ByteArray
  terms : List Int
instance : Inhabited Nd := ⟨⟨ByteArray.empty, []⟩⟩
/-- How many bytes and numbers it has. -/
def Nd.sz (x : Nd) : Nat := x.name.size + x.terms.length
def ndTot (xs : List Nd) : Nat := (xs.map Nd.sz).sum
/-- No part is greater than memory. -/
def Nd.fits (x : Nd) : Prop := x.name.size ≤ maxLen ∧ x.terms.length ≤ maxLen
@[reducible] def ndV (s : ByteArray) (T : Option Addr) (n c : Nat) : Value := .agg #[.string s, .slice T n c]

theorem ndTot_snoc {xs : List Nd} {k : Nat} {x : Nd} (h : xs[k]? = some x) : ndTot (xs.take (k + 1)) = ndTot (xs.take k) + x.sz := by
  unfold ndTot
  rw [List.take_add_one, h]
  simp
theorem ndTot_take_le (xs : List Nd) (k : Nat) : ndTot (xs.take k) ≤ ndTot xs := by
  have h2 := congrArg List.sum (List.take_append_drop k (xs.map Nd.sz))
  rw [List.sum_append] at h2
  unfold ndTot
  rw [List.map_take, ← h2]
  omega

theorem nd_le {xs : List Nd} {x : Nd} (h : x ∈ xs) : x.name.size + x.terms.length ≤ ndTot xs := by
  induction xs with
  | nil => cases h
  | cons y ys ih =>
    have e : ndTot (y :: ys) = y.sz + ndTot ys := by simp [ndTot]
    rw [e]
    rcases List.mem_cons.1 h with rfl | h
    · unfold Nd.sz; omega
    · have := ih h; omega
theorem Rd.next {α : Type} {enc : α → Value} {w w' : World} {A : Option Addr} {xs : List α} (h : Rd enc w w.heap.size A xs) (hb : Below w.heap.size w w') : Rd enc w' w'.heap.size A xs := (h.below hb).more hb.size
/-- A slice of integers with its capacity. -/
def RdT (w : World) (B : Nat) (T : Option Addr) (c : Nat) (xs : List Int) : Prop := Rd (Value.int .i64) w B T xs ∧ xs.length ≤ c ∧ c ≤ maxLen
def WrT (w : World) (B : Nat) (T : Option Addr) (c : Nat) (xs : List Int) : Prop := Wr (Value.int .i64) w B T xs ∧ xs.length ≤ c ∧ c ≤ maxLen
section
variable {w w' : World} {B B' : Nat} {T : Option Addr} {c : Nat} {xs : List Int}
theorem RdT.below (h : RdT w B T c xs) (hb : Below B w w') : RdT w' B T c xs := ⟨h.1.below hb, h.2⟩
theorem RdT.more (h : RdT w B T c xs) (hB : B ≤ B') : RdT w B' T c xs := ⟨h.1.more hB, h.2⟩
theorem RdT.next (h : RdT w w.heap.size T c xs) (hb : Below w.heap.size w w') : RdT w' w'.heap.size T c xs := ⟨h.1.next hb, h.2⟩
theorem WrT.rd (h : WrT w B T c xs) : RdT w w.heap.size T c xs := ⟨h.1.rd, h.2⟩
theorem WrT.more (h : WrT w B T c xs) (hB : B' ≤ B) : WrT w B' T c xs := ⟨h.1.more hB, h.2⟩
theorem WrT.below (h : WrT w B T c xs) (hb : Below w.heap.size w w') : WrT w' B T c xs := ⟨h.1.below hb, h.2⟩
theorem WrT.setLow (h : WrT w B T c xs) {p : Addr} (hp : p.block < B) (u : Value) : WrT (w.setCell p u) B T c xs := ⟨h.1.setLow hp u, h.2⟩
end
/-- A slice's address leads to named terms, in a block below B; so do their terms. -/
def RdN (w : World) (B : Nat) (A : Option Addr) (xs : List Nd) : Prop :=
  0 < xs.length → ∃ b off, A = some ⟨b, off, none⟩ ∧ b < B ∧ ∀ j x, xs[j]? = some x → ∃ T c, w.cell? ⟨b, off + j * 2, none⟩ = some (.string x.name) ∧ w.cell? ⟨b, off + j * 2 + 1, none⟩ = some (.slice T x.terms.length c) ∧ RdT w B T c x.terms
section
variable {w w' : World} {B B' : Nat} {A : Option Addr} {xs : List Nd}
theorem RdN.below (h : RdN w B A xs) (hb : Below B w w') : RdN w' B A xs := fun hn => by
  obtain ⟨b, off, e, hlt, hc⟩ := h hn
  refine ⟨b, off, e, hlt, fun j x hx => ?_⟩
  obtain ⟨T, c, h1, h2, h3⟩ := hc j x hx
  exact ⟨T, c, (hb.cell (p := ⟨b, off + j * 2, none⟩) hlt).trans h1, (hb.cell (p := ⟨b, off + j * 2 + 1, none⟩) hlt).trans h2, h3.below hb⟩
theorem RdN.more (h : RdN w B A xs) (hB : B ≤ B') : RdN w B' A xs := fun hn => by
  obtain ⟨b, off, e, hlt, hc⟩ := h hn
  refine ⟨b, off, e, by omega, fun j x hx => ?_⟩
  obtain ⟨T, c, h1, h2, h3⟩ := hc j x hx
  exact ⟨T, c, h1, h2, h3.more hB⟩
/-- Behind a call. -/
theorem RdN.next (h : RdN w w.heap.size A xs) (hb : Below w.heap.size w w') : RdN w' w'.heap.size A xs := (h.below hb).more hb.size
end
/-- .. in blocks from base on. -/
def WrN (w : World) (base : Nat) (A : Option Addr) (xs : List Nd) : Prop :=
  0 < xs.length → ∃ b off, A = some ⟨b, off, none⟩ ∧ base ≤ b ∧ b < w.heap.size ∧ ∀ j x, xs[j]? = some x → ∃ T c, w.cell? ⟨b, off + j * 2, none⟩ = some (.string x.name) ∧ w.cell? ⟨b, off + j * 2 + 1, none⟩ = some (.slice T x.terms.length c) ∧ WrT w base T c x.terms
section
variable {w w' : World} {B B' : Nat} {A : Option Addr} {xs : List Nd}
theorem WrN.rd (h : WrN w B A xs) : RdN w w.heap.size A xs := fun hn => by
  obtain ⟨b, off, e, _, hlt, hc⟩ := h hn
  refine ⟨b, off, e, hlt, fun j x hx => ?_⟩
  obtain ⟨T, c, h1, h2, h3⟩ := hc j x hx
  exact ⟨T, c, h1, h2, h3.rd⟩
theorem WrN.more (h : WrN w B A xs) (hB : B' ≤ B) : WrN w B' A xs := fun hn => by
  obtain ⟨b, off, e, hl, hlt, hc⟩ := h hn
  refine ⟨b, off, e, by omega, hlt, fun j x hx => ?_⟩
  obtain ⟨T, c, h1, h2, h3⟩ := hc j x hx
  exact ⟨T, c, h1, h2, h3.more hB⟩
theorem WrN.setLow (h : WrN w B A xs) {p : Addr} (hp : p.block < B) (u : Value) : WrN (w.setCell p u) B A xs := fun hn => by
  obtain ⟨b, off, e, hl, hlt, hc⟩ := h hn
  refine ⟨b, off, e, hl, by simpa using hlt, fun j x hx => ?_⟩
  obtain ⟨T, c, h1, h2, h3⟩ := hc j x hx
  refine ⟨T, c, (World.cell?_setCell_other w p _ u ?_).trans h1, (World.cell?_setCell_other w p _ u ?_).trans h2, h3.setLow hp u⟩
  all_goals (intro e; subst e; exact absurd hp (Nat.not_lt.2 hl))
end

end Go.Proofs.YtbcikkaoohihhaaGreatDoor

/- Errors of fractions and how they are compared: the walks. No condition but those that each theorem names. -/
namespace Go.Proofs.YtbcikkaoohihhaaGreatDoor
open Go.RowKit Go.Sort

/-- -1, 0 or 1. -/
def cmp3 (a b : Int) : Int := if a < b then -1 else if b < a then 1 else 0
theorem cmp3_neg {a b : Int} : cmp3 a b < 0 ↔ a < b := by unfold cmp3; split <;> (try split) <;> omega
/-- The error of a / b for n / d, times both denominators. -/
def errV (n d a b : Int) : Int := ((n * b - a * d).natAbs : Int)
def big6 (n : Int) : Prop := -1000000 ≤ n ∧ n ≤ 1000000
theorem errV_bd {n d a b : Int} (hn : big6 n) (hd : big6 d) (ha : big6 a) (hb : big6 b) : -1000000000000 ≤ n * b ∧ n * b ≤ 1000000000000 ∧ -1000000000000 ≤ a * d ∧ a * d ≤ 1000000000000 ∧ 0 ≤ errV n d a b ∧ errV n d a b ≤ 2000000000000 := by
  obtain ⟨n1, n2⟩ := hn
  obtain ⟨d1, d2⟩ := hd
  obtain ⟨a1, a2⟩ := ha
  obtain ⟨b1, b2⟩ := hb
  obtain ⟨p1, p2⟩ := mul_bd (x := n) (y := b) (M := 1000000) (N := 1000000) (by omega) n2 (by omega) b2 n1 b1
  obtain ⟨p3, p4⟩ := mul_bd (x := a) (y := d) (M := 1000000) (N := 1000000) (by omega) a2 (by omega) d2 a1 d1
  unfold errV
  omega

theorem cell_three_1 (w : World) (C D E : Array Value) (s t u : TypeId) (j : Nat) : (((w.alloc (.cells C s)).alloc (.cells D t)).alloc (.cells E u)).cell? ⟨w.heap.size, j, none⟩ = C[j]? :=
  (World.cell?_alloc_lt _ _ _ (by simp; omega)).trans (cell_two_fst w C D s t j)
theorem cell_three_2 (w : World) (C D E : Array Value) (s t u : TypeId) (j : Nat) : (((w.alloc (.cells C s)).alloc (.cells D t)).alloc (.cells E u)).cell? ⟨w.heap.size + 1, j, none⟩ = D[j]? :=
  (World.cell?_alloc_lt _ _ _ (by simp)).trans (cell_two_snd w C D s t j)
theorem cell_three_3 (w : World) (C D E : Array Value) (s t u : TypeId) (j : Nat) : (((w.alloc (.cells C s)).alloc (.cells D t)).alloc (.cells E u)).cell? ⟨w.heap.size + 2, j, none⟩ = E[j]? :=
  World.cell?_alloc_at _ _ _ _ (by simp)

end Go.Proofs.YtbcikkaoohihhaaGreatDoor

/- Slices of notes: how they read; the statements' own measuring, copying and comparing of them. No condition but those that each theorem names. -/
namespace Go.Proofs.YtbcikkaoohihhaaGreatDoor
open Go.RowKit Go.Sort

/-- A note. -/
structure Nt where
  name : ByteArray
  kind : Int
  num : Int
  den : Int
  terms : List Int
  sp : Int
  sd : Int
  sq : Int
instance : Inhabited Nt := ⟨⟨ByteArray.empty, 0, 0, 0, [], 0, 0, 0⟩⟩
def Nt.sz (x : Nt) : Nat := x.name.size + x.terms.length
def ntTot (xs : List Nt) : Nat := (xs.map Nt.sz).sum
def Nt.fits (x : Nt) : Prop := x.name.size ≤ maxLen ∧ x.terms.length ≤ maxLen
def ntC (x : Nt) (T : Option Addr) (c : Nat) : List Value := [.string x.name, .int .i64 x.kind, .int .i64 x.num, .int .i64 x.den, .slice T x.terms.length c, .int .i64 x.sp, .int .i64 x.sd, .int .i64 x.sq]
@[reducible] def ntV (s : ByteArray) (k n d : Int) (T : Option Addr) (l c : Nat) (p e q : Int) : Value := .agg #[.string s, .int .i64 k, .int .i64 n, .int .i64 d, .slice T l c, .int .i64 p, .int .i64 e, .int .i64 q]
@[reducible] def surdV (p d q : Int) : Value := .agg #[.int .i64 p, .int .i64 d, .int .i64 q]

theorem ntTot_snoc {xs : List Nt} {k : Nat} {x : Nt} (h : xs[k]? = some x) : ntTot (xs.take (k + 1)) = ntTot (xs.take k) + x.sz := by
  unfold ntTot
  rw [List.take_add_one, h]
  simp
theorem ntTot_take_le (xs : List Nt) (k : Nat) : ntTot (xs.take k) ≤ ntTot xs := by
  have h2 := congrArg List.sum (List.take_append_drop k (xs.map Nt.sz))
  rw [List.sum_append] at h2
  unfold ntTot
  rw [List.map_take, ← h2]
  omega
theorem nt_le {xs : List Nt} {x : Nt} (h : x ∈ xs) : x.name.size + x.terms.length ≤ ntTot xs := by
  induction xs with
  | nil => cases h
  | cons y ys ih =>
    have e : ntTot (y :: ys) = y.sz + ntTot ys := by simp [ntTot]
    rw [e]
    rcases List.mem_cons.1 h with rfl | h
    · unfold Nt.sz; omega
    · have := ih h; omega

/-- Values that lie in a row of block b from o on. -/
def RowAt (w : World) (b o : Nat) (vs : List Value) : Prop := ∀ i v, vs[i]? = some v → w.cell? ⟨b, o + i, none⟩ = some v
theorem RowAt.below {w w' : World} {B b o : Nat} {vs : List Value} (h : RowAt w b o vs) (hb : Below B w w') (hlt : b < B) : RowAt w' b o vs := fun i v hv => (hb.cell (p := ⟨b, o + i, none⟩) hlt).trans (h i v hv)
/-- The eight cells of a note, one by one. -/
structure NtAt (w : World) (b o : Nat) (x : Nt) (T : Option Addr) (c : Nat) : Prop where
  c0 : w.cell? ⟨b, o, none⟩ = some (.string x.name)
  c1 : w.cell? ⟨b, o + 1, none⟩ = some (.int .i64 x.kind)
  c2 : w.cell? ⟨b, o + 2, none⟩ = some (.int .i64 x.num)
  c3 : w.cell? ⟨b, o + 3, none⟩ = some (.int .i64 x.den)
  c4 : w.cell? ⟨b, o + 4, none⟩ = some (.slice T x.terms.length c)
  c5 : w.cell? ⟨b, o + 5, none⟩ = some (.int .i64 x.sp)
  c6 : w.cell? ⟨b, o + 6, none⟩ = some (.int .i64 x.sd)
  c7 : w.cell? ⟨b, o + 7, none⟩ = some (.int .i64 x.sq)
theorem RowAt.nt {w : World} {b o : Nat} {x : Nt} {T : Option Addr} {c : Nat} (h : RowAt w b o (ntC x T c)) : NtAt w b o x T c :=
  ⟨h 0 _ rfl, h 1 _ rfl, h 2 _ rfl, h 3 _ rfl, h 4 _ rfl, h 5 _ rfl, h 6 _ rfl, h 7 _ rfl⟩

def RdNt (w : World) (B : Nat) (A : Option Addr) (xs : List Nt) : Prop :=
  0 < xs.length → ∃ b off, A = some ⟨b, off, none⟩ ∧ b < B ∧ ∀ j x, xs[j]? = some x → ∃ T c, RowAt w b (off + j * 8) (ntC x T c) ∧ RdT w B T c x.terms
section
variable {w w' : World} {B B' : Nat} {A : Option Addr} {xs : List Nt}
theorem RdNt.below (h : RdNt w B A xs) (hb : Below B w w') : RdNt w' B A xs := fun hn => by
  obtain ⟨b, off, e, hlt, hc⟩ := h hn
  refine ⟨b, off, e, hlt, fun j x hx => ?_⟩
  obtain ⟨T, c, h1, h3⟩ := hc j x hx
  exact ⟨T, c, h1.below hb hlt, h3.below hb⟩
theorem RdNt.more (h : RdNt w B A xs) (hB : B ≤ B') : RdNt w B' A xs := fun hn => by
  obtain ⟨b, off, e, hlt, hc⟩ := h hn
  refine ⟨b, off, e, by omega, fun j x hx => ?_⟩
  obtain ⟨T, c, h1, h3⟩ := hc j x hx
  exact ⟨T, c, h1, h3.more hB⟩
theorem RdNt.next (h : RdNt w w.heap.size A xs) (hb : Below w.heap.size w w') : RdNt w' w'.heap.size A xs := (h.below hb).more hb.size
end
def WrNt (w : World) (base : Nat) (A : Option Addr) (xs : List Nt) : Prop :=
  0 < xs.length → ∃ b off, A = some ⟨b, off, none⟩ ∧ base ≤ b ∧ b < w.heap.size ∧ ∀ j x, xs[j]? = some x → ∃ T c, RowAt w b (off + j * 8) (ntC x T c) ∧ WrT w base T c x.terms
theorem WrNt.rd {w : World} {B : Nat} {A : Option Addr} {xs : List Nt} (h : WrNt w B A xs) : RdNt w w.heap.size A xs := fun hn => by
  obtain ⟨b, off, e, _, hlt, hc⟩ := h hn
  refine ⟨b, off, e, hlt, fun j x hx => ?_⟩
  obtain ⟨T, c, h1, h3⟩ := hc j x hx
  exact ⟨T, c, h1, h3.rd⟩

theorem eqSurd_any (p d q : Int) (w : World) :
    Calls Tryz.prog 88 #[surdV p d q, surdV p d q] w fun e w' => e = .returned (.bool true) ∧ Below w.heap.size w w' := by
  unfold surdV
  go_enter Tryz.func88, Tryz.ntmps88
  go_wp2
  go_ret
  exact ⟨rfl, ext_alloc (ext_alloc (Below.refl _ _) _) _⟩

set_option maxHeartbeats 1000000 in
theorem eqNote_any (x : Nt) (A B : Option Addr) (c d : Nat) (w : World) (hx : Rd (Value.int .i64) w w.heap.size A x.terms) (hy : Rd (Value.int .i64) w w.heap.size B x.terms) (hm : x.terms.length ≤ maxLen) :
    Calls Tryz.prog 39 #[ntV x.name x.kind x.num x.den A x.terms.length c x.sp x.sd x.sq, ntV x.name x.kind x.num x.den B x.terms.length d x.sp x.sd x.sq] w fun e w' => e = .returned (.bool true) ∧ Below w.heap.size w w' := by
  have HX : Hid (∀ W, Below w.heap.size w W → Rd (Value.int .i64) W W.heap.size A x.terms) := fun W hb => (hx.below hb).more hb.size
  have HY : Hid (∀ W, Below w.heap.size w W → Rd (Value.int .i64) W W.heap.size B x.terms) := fun W hb => (hy.below hb).more hb.size
  clear hx hy
  generalize x.name = s at *
  generalize x.kind = k at *
  generalize x.num = n at *
  generalize x.den = m at *
  generalize x.sp = p at *
  generalize x.sd = f at *
  generalize x.sq = q at *
  generalize x.terms = xs at *
  unfold ntV
  go_enter Tryz.func39, Tryz.ntmps39
  go_wp2_with fail
  refine (eqFraction_any n m _).mono ?_
  rintro e w1 ⟨rfl, hb1⟩
  have E1 : Below w.heap.size w w1 := ext_trans (ext_alloc (ext1 _ _) _) hb1
  obtain ⟨hc1, hf1⟩ := bcell hb1
  have hy1 := hb1.size
  (try simp at hy1)
  have hz0 : w.heap.size < w1.heap.size := by omega
  have hz1 : w.heap.size + 1 < w1.heap.size := by omega
  go_wp2_with fail
  refine (eqInt64S_any A B c d xs xs _ (HX.out _ E1) (HY.out _ E1) hm hm).mono ?_
  rintro e w2 ⟨rfl, hb2⟩
  obtain ⟨hc2, hf2⟩ := bcell hb2
  have E2 := ext_trans E1 hb2
  have hy2 := hb2.size
  go_wp2_with fail
  refine (eqSurd_any p f q _).mono ?_
  rintro e w3 ⟨rfl, hb3⟩
  go_wp2
  go_ret
  exact ⟨rfl, ext_trans E2 hb3⟩

set_option maxHeartbeats 1000000 in
theorem eqNoteS_any (A B : Option Addr) (c d : Nat) (xs : List Nt) (w : World) (hx : RdNt w w.heap.size A xs) (hy : RdNt w w.heap.size B xs) (hf : ∀ x ∈ xs, x.terms.length ≤ maxLen) (hl : xs.length ≤ 1048576) :
    Calls Tryz.prog 7 #[.slice A xs.length c, .slice B xs.length d] w fun e w' => e = .returned (.bool true) ∧ Below w.heap.size w w' := by
  have HF := Lib.hid hf
  clear hf
  have hl0 : ((xs.length : Int) != (xs.length : Int)) = false := by simp
  go_enter Tryz.func7, Tryz.ntmps7
  go_wp2_with fail
  go_loopw [5] (fun t wr => ∃ k : Nat, k ≤ xs.length ∧ t = .int .i64 k ∧ Below w.heap.size w wr) (fun t _ => xs.length - (intOf t).toNat)
  case atStart => exact ⟨0, by omega, rfl, Below.refl _ _⟩
  case round =>
    obtain ⟨k, hk, rfl, hbe⟩ := hrel
    by_cases hlt : k < xs.length
    · obtain ⟨b, off, rfl, hb, hc⟩ := (hx.next hbe) (by omega)
      obtain ⟨b', off', rfl, hb', hc'⟩ := (hy.next hbe) (by omega)
      obtain ⟨x, hxk⟩ : ∃ x, xs[k]? = some x := ⟨_, List.getElem?_eq_getElem hlt⟩
      obtain ⟨T, ct, cr, cT⟩ := hc k x hxk
      obtain ⟨T', ct', dr, dT⟩ := hc' k x hxk
      have HC := Lib.hid (fun W hb => eqNote_any x T T' ct ct' W (cT.1.next (w' := W) hb) (dT.1.next hb) (HF.out x (List.mem_of_getElem? hxk)))
      obtain ⟨c0, c1, c2, c3, c4, c5, c6, c7⟩ := cr.nt
      obtain ⟨d0, d1, d2, d3, d4, d5, d6, d7⟩ := dr.nt
      clear hc hc' hxk cr dr cT dT
      have i0 : (0 : Int) ≤ (k : Int) := by omega
      have i1 : (k : Int) < (xs.length : Int) := by omega
      have k0 : ∀ x os, (grow (redrawn wr x) os).cell? _ = _ := cell_regrown c0
      have k1 : ∀ x os, (grow (redrawn wr x) os).cell? _ = _ := cell_regrown c1
      have k2 : ∀ x os, (grow (redrawn wr x) os).cell? _ = _ := cell_regrown c2
      have k3 : ∀ x os, (grow (redrawn wr x) os).cell? _ = _ := cell_regrown c3
      have k4 : ∀ x os, (grow (redrawn wr x) os).cell? _ = _ := cell_regrown c4
      have k5 : ∀ x os, (grow (redrawn wr x) os).cell? _ = _ := cell_regrown c5
      have k6 : ∀ x os, (grow (redrawn wr x) os).cell? _ = _ := cell_regrown c6
      have k7 : ∀ x os, (grow (redrawn wr x) os).cell? _ = _ := cell_regrown c7
      have l0 : ∀ x os, (grow (redrawn wr x) os).cell? _ = _ := cell_regrown d0
      have l1 : ∀ x os, (grow (redrawn wr x) os).cell? _ = _ := cell_regrown d1
      have l2 : ∀ x os, (grow (redrawn wr x) os).cell? _ = _ := cell_regrown d2
      have l3 : ∀ x os, (grow (redrawn wr x) os).cell? _ = _ := cell_regrown d3
      have l4 : ∀ x os, (grow (redrawn wr x) os).cell? _ = _ := cell_regrown d4
      have l5 : ∀ x os, (grow (redrawn wr x) os).cell? _ = _ := cell_regrown d5
      have l6 : ∀ x os, (grow (redrawn wr x) os).cell? _ = _ := cell_regrown d6
      have l7 : ∀ x os, (grow (redrawn wr x) os).cell? _ = _ := cell_regrown d7
      clear c0 c1 c2 c3 c4 c5 c6 c7 d0 d1 d2 d3 d4 d5 d6 d7
      go_wp2_with fail
      refine wp_region_quiet_below (by kernel_rfl) (by kernel_rfl) ?_
      repeat (first | go_big_quiet_step ((with_reducible exact Calls.regrown_of (HC.out _ (below_regrown _ _ _)))) | quiet_step ((with_reducible exact Calls.regrown_of (HC.out _ (below_regrown _ _ _)))))
      refine wpQuiet_nil ?_
      intro _ hw'
      obtain ⟨⟨dq, oq⟩, hw''⟩ := hw'
      subst hw''
      clear k0 k1 k2 k3 k4 k5 k6 k7 l0 l1 l2 l3 l4 l5 l6 l7
      go_wp2
      go_roundw
      case rel => exact ⟨k + 1, by omega, by go_num, ext_trans hbe (below_regrown _ _ _)⟩
      case measure => simp [intOf]; omega
    · go_wp2
      go_ret
      exact ⟨rfl, hbe⟩
end Go.Proofs.YtbcikkaoohihhaaGreatDoor

/- The texts of notes: the plain law. No condition but those that each theorem names. -/
namespace Go.Proofs.YtbcikkaoohihhaaGreatDoor
open Go.RowKit Go.Sort

/-- The text of a fraction. -/
def frT (n d : Int) : ByteArray := if d = 1 then decB n else (decB n ++ ({ data := #[47] } : ByteArray)) ++ decB d
/-- The text of a surd. -/
def sdT (p d q : Int) : ByteArray := ((((({ data := #[40] } : ByteArray) ++ decB p) ++ ({ data := #[43, 114] } : ByteArray)) ++ decB d) ++ ({ data := #[41, 47] } : ByteArray)) ++ decB q
/-- The text of terms, up to k. -/
def tmO (ts : List Int) : Nat → ByteArray
  | 0 => ⟨#[]⟩
  | 1 => ({ data := #[91] } : ByteArray) ++ decB (ts.getD 0 0)
  | k + 2 => (tmO ts (k + 1) ++ (if k = 0 then ({ data := #[59, 32] } : ByteArray) else ({ data := #[44, 32] } : ByteArray))) ++ decB (ts.getD (k + 1) 0)
/-- The text of terms. -/
def tmT (ts : List Int) : ByteArray := tmO ts ts.length ++ ({ data := #[93] } : ByteArray)
theorem appSize (a b : ByteArray) : (a ++ b).size = a.size + b.size := ByteArray.size_append
theorem frT_size {n d : Int} (n1 : -1000000000 ≤ n) (n2 : n ≤ 1000000000) (d1 : -1000000000 ≤ d) (d2 : d ≤ 1000000000) : (frT n d).size ≤ 43 := by
  have h1 := decB_size (n := n) (by omega) (by omega)
  have h2 := decB_size (n := d) (by omega) (by omega)
  have l : ({ data := #[47] } : ByteArray).size = 1 := rfl
  unfold frT
  split
  · omega
  · rw [appSize, appSize]; omega
theorem tmO_size {ts : List Int} (h : ∀ t ∈ ts, -1000000000 ≤ t ∧ t ≤ 1000000000) : ∀ k, k ≤ ts.length → (tmO ts k).size ≤ 23 * k
  | 0, _ => by simp [tmO]; rfl
  | 1, hk => by
    have hx : ts[0]? = some (ts[0]'(by omega)) := List.getElem?_eq_getElem (by omega)
    have hb := h _ (List.getElem_mem (show 0 < ts.length by omega))
    have hz := decB_size (n := ts[0]'(by omega)) (by omega) (by omega)
    have l : ({ data := #[91] } : ByteArray).size = 1 := rfl
    unfold tmO
    simp only [List.getD, hx, Option.getD_some]
    rw [appSize]
    omega
  | k + 2, hk => by
    have ih := tmO_size h (k + 1) (by omega)
    have hx : ts[k + 1]? = some (ts[k + 1]'(by omega)) := List.getElem?_eq_getElem (by omega)
    have hb := h _ (List.getElem_mem (show k + 1 < ts.length by omega))
    have hz := decB_size (n := ts[k + 1]'(by omega)) (by omega) (by omega)
    have l1 : ({ data := #[59, 32] } : ByteArray).size = 2 := rfl
    have l2 : ({ data := #[44, 32] } : ByteArray).size = 2 := rfl
    unfold tmO
    simp only [List.getD, hx, Option.getD_some]
    rw [appSize, appSize]
    split <;> omega
/-- What stands behind a note's name. -/
def ntBody (x : Nt) : ByteArray := if x.kind = 1 then frT x.num x.den else if x.kind = 2 then tmT x.terms else sdT x.sp x.sd x.sq
/-- A note's line. -/
def ntLine (x : Nt) : ByteArray := ((x.name ++ ({ data := #[32, 61, 32] } : ByteArray)) ++ ntBody x) ++ ({ data := #[10] } : ByteArray)
/-- The text of the first k notes. -/
def ntsO (xs : List Nt) : Nat → ByteArray
  | 0 => ⟨#[]⟩
  | k + 1 => ntsO xs k ++ (match xs[k]? with | some x => ntLine x | none => ⟨#[]⟩)
end Go.Proofs.YtbcikkaoohihhaaGreatDoor
