/- The text of a notebook, read again: the plain law. No condition but those that each theorem names. -/
import Derived.Test.YtpnabggpdgjbmaaGreatDoorMgBC
import Derived.Test.YtpnabggpdgjbmaaGreatDoorMgAU
namespace Go.Proofs.YtpnabggpdgjbmaaGreatDoor
open Go.RowKit Go.Sort
theorem tmT_head {ts : List Int} (h : termsB ts = true) : ∃ l, (tmT ts).data.toList = 91 :: l := ⟨_, tmT_list (termsBBd h).2.1⟩
theorem frT_head (n d : Int) : ∃ b l, (frT n d).data.toList = b :: l ∧ (b = 45 ∨ (48 ≤ b.toNat ∧ b.toNat ≤ 57)) := by
  have hl := frT_list n d
  obtain ⟨b, r, hb⟩ := List.exists_cons_of_ne_nil (dcL_ne n)
  have hc := dc_ch (n := n) (b := b) (by rw [hb]; simp)
  rw [hb] at hl
  split at hl
  · exact ⟨b, r, hl, hc⟩
  · exact ⟨b, _, hl, hc⟩
/-- The note that a name and a text tell. -/
def rdN (name own : ByteArray) : Option Nt :=
  match rfO own with
  | some (n, d) => some ⟨name, 1, n, d, [], 0, 0, 0⟩
  | none => match rtO own with
    | some ts => some ⟨name, 2, 0, 0, ts, 0, 0, 0⟩
    | none => match rsO own with
      | some (p, d, q) => some ⟨name, 3, 0, 0, [], p, d, q⟩
      | none => none
theorem rdN_body {x : Nt} (h : ntOk x = true) : rdN x.name (ntBody x) = some x := by
  have hk := h
  unfold ntOk at hk
  rw [Bool.and_eq_true] at hk
  obtain ⟨_, hk⟩ := hk
  obtain ⟨nm, kd, nu, de, ts, sp, sd, sq⟩ := x
  unfold rdN ntBody
  simp only at hk ⊢
  split at hk
  · next h1 =>
    subst h1
    simp only [Bool.and_eq_true, Nt.zT, Nt.zS, decide_eq_true_iff, beq_iff_eq, List.length_eq_zero_iff] at hk
    obtain ⟨k1, rfl, rfl, rfl, rfl⟩ := hk
    rw [if_pos rfl, rfO_iff.2 ⟨k1, rfl⟩]
  · next h1 =>
    split at hk
    · next h2 =>
      subst h2
      simp only [Bool.and_eq_true, Nt.zF, Nt.zS, beq_iff_eq] at hk
      obtain ⟨k1, ⟨rfl, rfl⟩, rfl, rfl, rfl⟩ := hk
      have hf : rfO (tmT ts) = none := rfO_no fun n d _ e => by
        obtain ⟨b, l, e1, e2⟩ := frT_head n d
        obtain ⟨l', e3⟩ := tmT_head k1
        rw [e, e3] at e1
        injection e1 with e1
        subst e1
        revert e2
        decide
      rw [if_neg (by decide), if_pos rfl, hf, rtO_iff.2 ⟨k1, rfl⟩]
    · next h2 =>
      split at hk
      · next h3 =>
        subst h3
        simp only [Bool.and_eq_true, Nt.zF, Nt.zT, decide_eq_true_iff, beq_iff_eq, List.length_eq_zero_iff] at hk
        obtain ⟨k1, ⟨rfl, rfl⟩, rfl⟩ := hk
        have hf : rfO (sdT sp sd sq) = none := rfO_no fun n d _ e => by
          obtain ⟨b, l, e1, e2⟩ := frT_head n d
          rw [e, sdT_list] at e1
          injection e1 with e1
          subst e1
          revert e2
          decide
        have ht : rtO (sdT sp sd sq) = none := rtO_no fun us hu e => by
          obtain ⟨l', e3⟩ := tmT_head hu
          rw [e, sdT_list] at e3
          injection e3 with e3
          revert e3
          decide
        rw [if_neg (by decide), if_neg (by decide), hf, ht, rsO_iff.2 ⟨k1, rfl⟩]
      · cases hk
theorem body_rdN {nm own : ByteArray} {x : Nt} (h : rdN nm own = some x) : x.name = nm ∧ ntBody x = own ∧ (x.kind = 1 ∨ x.kind = 2 ∨ x.kind = 3) := by
  unfold rdN at h
  cases h1 : rfO own with
  | some y =>
    obtain ⟨n, d⟩ := y
    rw [h1] at h
    simp only [Option.some.injEq] at h
    subst h
    refine ⟨rfl, ?_, .inl rfl⟩
    unfold ntBody
    rw [if_pos rfl]
    exact (rfO_iff.1 h1).2
  | none =>
    rw [h1] at h
    simp only at h
    cases h2 : rtO own with
    | some ts =>
      rw [h2] at h
      simp only [Option.some.injEq] at h
      subst h
      refine ⟨rfl, ?_, .inr (.inl rfl)⟩
      unfold ntBody
      rw [if_neg (by simp), if_pos rfl]
      exact (rtO_iff.1 h2).2
    | none =>
      rw [h2] at h
      simp only at h
      cases h3 : rsO own with
      | some y =>
        obtain ⟨p, d, q⟩ := y
        rw [h3] at h
        simp only [Option.some.injEq] at h
        subst h
        refine ⟨rfl, ?_, .inr (.inr rfl)⟩
        unfold ntBody
        rw [if_neg (by simp), if_neg (by simp)]
        exact (rsO_iff.1 h3).2
      | none => rw [h3] at h; cases h
theorem mem_join {c : UInt8} {sep : List UInt8} (hc : c ∉ sep) : ∀ (ds : List (List UInt8)), (∀ d ∈ ds, c ∉ d) → c ∉ Lib.join ds sep
  | [], _ => by simp [Lib.join_nil]
  | [a], h => by rw [join1]; exact h a (by simp)
  | a :: b :: r, h => by
    have ih := mem_join hc (b :: r) (fun d hd => h d (List.mem_cons_of_mem _ hd))
    have ha := h a (by simp)
    rw [join2]
    simp [ha, hc, ih]
theorem body_no {x : Nt} (hx : ntOk x = true) : (10 : UInt8) ∉ (ntBody x).data.toList := by
  have dn : ∀ n : Int, (10 : UInt8) ∉ dcL n := fun n => dc_no (by decide) (by decide)
  rcases ntKnd hx with ⟨h, _⟩ | ⟨h, k⟩ | ⟨h, _⟩
  · unfold ntBody
    rw [if_pos h, frT_list]
    split
    · exact dn _
    · simp [dn]
  · unfold ntBody
    rw [if_neg (by omega), if_pos h, tmT_list (termsBBd k).2.1]
    have : (10 : UInt8) ∉ tmI x.terms := by
      match x.terms with
      | [] => simp [tmI]
      | [t] => exact dn t
      | t :: u :: r =>
        have hj := mem_join (c := 10) (sep := [44, 32]) (by decide) ((u :: r).map dcL) (fun d hd => by
          obtain ⟨y, _, rfl⟩ := List.mem_map.1 hd
          exact dn y)
        show (10 : UInt8) ∉ dcL t ++ (59 :: [32] ++ Lib.join ((u :: r).map dcL) [44, 32])
        simp only [List.mem_append, List.mem_cons, List.not_mem_nil, not_or]
        exact ⟨dn t, ⟨by decide, by decide, by simp⟩, hj⟩
    simp [this]
  · unfold ntBody
    rw [if_neg (by omega), if_neg (by omega), sdT_list]
    simp [dn]
theorem name_ch {s : ByteArray} (h : nameB s = true) {b : UInt8} (hb : b ∈ s.data.toList) : (48 ≤ b.toNat ∧ b.toNat ≤ 57) ∨ (97 ≤ b.toNat ∧ b.toNat ≤ 122) ∨ b.toNat = 45 := by
  unfold nameB at h
  simp only [Bool.and_eq_true] at h
  have := List.all_eq_true.1 h.2.2.2 b hb
  unfold nmCh smallB digB at this
  simp only [Bool.or_eq_true, Bool.and_eq_true, decide_eq_true_iff] at this
  omega
theorem name_no {s : ByteArray} (h : nameB s = true) {c : UInt8} (hc : c.toNat < 45) : c ∉ s.data.toList := fun hb => by
  have := name_ch h hb
  omega
theorem ntOk_name {x : Nt} (h : ntOk x = true) : nameB x.name = true := by
  unfold ntOk at h
  rw [Bool.and_eq_true] at h
  exact h.1
/-- A line without its end. -/
def ntL (x : Nt) : List UInt8 := x.name.data.toList ++ (32 :: [61, 32] ++ (ntBody x).data.toList)
theorem ntL_no {x : Nt} (h : ntOk x = true) : (10 : UInt8) ∉ ntL x := by
  have h1 := name_no (ntOk_name h) (c := 10) (by decide)
  have h2 := body_no h
  unfold ntL
  simp [h1, h2]
theorem ntLine_list (x : Nt) : (ntLine x).data.toList = ntL x ++ 10 :: [] := by
  unfold ntLine ntL
  rw [bap, bap, bap]
  simp
theorem ntsO_flat : ∀ (xs : List Nt) (k : Nat), k ≤ xs.length → (ntsO xs k).data.toList = (xs.take k).flatMap fun x => ntL x ++ [10]
  | xs, 0, _ => by simp [ntsO]
  | xs, k + 1, hk => by
    have hx : xs[k]? = some (xs[k]'(by omega)) := List.getElem?_eq_getElem (by omega)
    have ht : xs.take (k + 1) = xs.take k ++ [xs[k]'(by omega)] := by rw [List.take_add_one, hx]; rfl
    rw [ntsO, hx, bap, ntsO_flat xs k (by omega), ntLine_list, ht, List.flatMap_append, List.flatMap_cons, List.flatMap_nil, List.append_nil]
/-- The note of a line, as the program cuts it. -/
def lnI (l : List UInt8) : Option Nt := rdN (mkL (Lib.cut l [32, 61, 32]).1) (mkL (Lib.cut l [32, 61, 32]).2.1)
/-- The notes of a text, line by line. -/
def rnF : Nat → List UInt8 → Option (List Nt)
  | 0, _ => some []
  | _ + 1, [] => some []
  | f + 1, b :: l => match lnI (Lib.cut (b :: l) [10]).1 with
    | none => none
    | some x => (rnF f (Lib.cut (b :: l) [10]).2.1).map (x :: ·)
theorem lnI_line {x : Nt} (h : ntOk x = true) : lnI (ntL x) = some x := by
  unfold lnI ntL
  rw [cut_at (name_no (ntOk_name h) (by decide)), mkL_back, mkL_back]
  exact rdN_body h
theorem rnF_step (f : Nat) {l : List UInt8} (h : l ≠ []) : rnF (f + 1) l = match lnI (Lib.cut l [10]).1 with
    | none => none
    | some x => (rnF f (Lib.cut l [10]).2.1).map (x :: ·) := by
  cases l with
  | nil => exact absurd rfl h
  | cons b l => rfl
theorem rnF_some {f : Nat} {l a r : List UInt8} {x : Nt} {L : List Nt} {k : Bool} (h : l ≠ []) (hc : Lib.cut l [10] = (a, r, k)) (hx : lnI a = some x) (hr : rnF f r = some L) : rnF (f + 1) l = some (x :: L) := by
  rw [rnF_step f h, hc]
  simp only
  rw [hx, hr]
  rfl
theorem rnF_flat : ∀ (xs : List Nt) (f : Nat), xs.length < f → (∀ x ∈ xs, ntOk x = true) → rnF f (xs.flatMap fun x => ntL x ++ [10]) = some xs
  | [], f + 1, _, _ => rfl
  | x :: xs, f + 1, hf, h => by
    have hx := h x (by simp)
    have hc := cut_at (c := 10) (cs := []) (a := ntL x) (r := xs.flatMap fun x => ntL x ++ [10]) (ntL_no hx)
    have e : ((x :: xs).flatMap fun x => ntL x ++ [10]) = ntL x ++ (10 :: [] ++ xs.flatMap fun x => ntL x ++ [10]) := by simp
    rw [e]
    have hf2 : xs.length < f := by rw [List.length_cons] at hf; omega
    refine rnF_some (fun h0 => ?_) hc (lnI_line hx) (rnF_flat xs f hf2 (fun y hy => h y (List.mem_cons_of_mem _ hy)))
    have h1 := congrArg List.length h0
    simp only [List.length_append, List.length_cons, List.length_nil] at h1
    omega
/-- The notes that a text tells. -/
def rnO (s : ByteArray) : Option (List Nt) := match rnF (s.size + 1) s.data.toList with
  | none => none
  | some L => if validNt L = true ∧ ntsO L L.length = s then some L else none
theorem valid_each {xs : List Nt} (h : validNt xs = true) : ∀ x ∈ xs, ntOk x = true := fun x hx => by
  unfold validNt at h
  rw [Bool.and_eq_true] at h
  obtain ⟨k, hk⟩ := List.getElem?_of_mem hx
  have hkl := (List.getElem?_eq_some_iff.1 hk).1
  cases ha : okAtX xs k with
  | false => rw [okToX_false ha _ hkl] at h; exact absurd h.1 (by simp)
  | true =>
    unfold okAtX at ha
    rw [hk] at ha
    simp only [Bool.and_eq_true] at ha
    exact ha.1
theorem nts_len {xs : List Nt} : xs.length ≤ (ntsO xs xs.length).size := by
  rw [← size_list, ntsO_flat xs _ (Nat.le_refl _), List.take_length]
  induction xs with
  | nil => simp
  | cons x xs ih => simp only [List.flatMap_cons, List.length_append, List.length_cons, List.length_nil]; omega
theorem rnO_iff {s : ByteArray} {L : List Nt} : rnO s = some L ↔ validNt L = true ∧ ntsO L L.length = s := by
  constructor
  · intro h
    unfold rnO at h
    split at h
    · cases h
    · split at h
      · next hc => injection h with h; subst h; exact hc
      · cases h
  · rintro ⟨h1, h2⟩
    have hl := nts_len (xs := L)
    have hf := rnF_flat L (s.size + 1) (by rw [← h2]; omega) (valid_each h1)
    have e : s.data.toList = L.flatMap fun x => ntL x ++ [10] := by rw [← h2, ntsO_flat L _ (Nat.le_refl _), List.take_length]
    unfold rnO
    rw [e, hf]
    simp [h1, h2]
theorem cut_short {D : List UInt8} (h : D ≠ []) : (Lib.cut D [10]).2.1.length < D.length := by
  have hp := List.length_pos_iff.2 h
  unfold Lib.cut
  split
  · simp; omega
  · simpa using hp
theorem valid_no40 {L : List Nt} (h : 40 < L.length) : validNt L = false := by
  unfold validNt
  rw [decide_eq_false (by omega), Bool.and_false]
/-- What the program finds, line by line. -/
theorem rn_facts (s : ByteArray) : (rnF (s.size + 1) s.data.toList = none → rnO s = none) ∧ ∀ L, rnF (s.size + 1) s.data.toList = some L → (validNt L = false → rnO s = none) ∧ (validNt L = true → ntsO L L.length ≠ s → rnO s = none) ∧ (validNt L = true → ntsO L L.length = s → rnO s = some L) := by
  refine ⟨fun h => by unfold rnO; rw [h], fun L h => ⟨fun h1 => ?_, fun _ h2 => ?_, fun h1 h2 => ?_⟩⟩
  · unfold rnO
    rw [h]
    simp [h1]
  · unfold rnO
    rw [h]
    simp [h2]
  · unfold rnO
    rw [h]
    simp [h1, h2]
theorem rn_none {s : ByteArray} {f : Nat} {D : List UInt8} {xs : List Nt} (hr : rnF (s.size + 1) s.data.toList = (rnF (f + 1) D).map (xs ++ ·)) (hD : D ≠ []) (h : lnI (Lib.cut D [10]).1 = none) : rnO s = none := by
  rw [rnF_step f hD, h] at hr
  exact (rn_facts s).1 hr
theorem rn_step {s : ByteArray} {f : Nat} {D : List UInt8} {xs : List Nt} {x : Nt} (hr : rnF (s.size + 1) s.data.toList = (rnF (f + 1) D).map (xs ++ ·)) (hD : D ≠ []) (h : lnI (Lib.cut D [10]).1 = some x) : rnF (s.size + 1) s.data.toList = (rnF f (Lib.cut D [10]).2.1).map ((xs ++ [x]) ++ ·) := by
  rw [rnF_step f hD, h] at hr
  rw [hr]
  simp only [Option.map_map]
  congr 1
  funext l
  simp
theorem rn_endX {X : Option (List Nt)} {f : Nat} {D : List UInt8} {xs : List Nt} (hr : X = (rnF (f + 1) D).map (xs ++ ·)) (hD : D = []) : X = some xs := by
  subst hD
  rw [hr]
  show (some ([] : List Nt)).map (xs ++ ·) = some xs
  rw [Option.map_some, List.append_nil]
theorem rn_full {s : ByteArray} {f : Nat} {D : List UInt8} {xs : List Nt} (hr : rnF (s.size + 1) s.data.toList = (rnF (f + 1) D).map (xs ++ ·)) (hD : D ≠ []) (hx : xs.length = 40) : rnO s = none := by
  cases h : lnI (Lib.cut D [10]).1 with
  | none => exact rn_none hr hD h
  | some x =>
    have h2 := rn_step hr hD h
    cases h3 : rnF f (Lib.cut D [10]).2.1 with
    | none => rw [h3] at h2; exact (rn_facts s).1 h2
    | some L =>
      rw [h3] at h2
      exact ((rn_facts s).2 _ h2).1 (valid_no40 (by simp; omega))
/-! The reference's lines. -/
/-- The place of the first blank, or the end. -/
def blP : List UInt8 → Nat
  | [] => 0
  | b :: l => if b = 32 then 0 else blP l + 1
theorem blP_le : ∀ l : List UInt8, blP l ≤ l.length
  | [] => Nat.le_refl _
  | b :: l => by
    have := blP_le l
    unfold blP
    split <;> simp <;> omega
theorem blP_at : ∀ (a r : List UInt8), (32 : UInt8) ∉ a → blP (a ++ 32 :: r) = a.length
  | [], r, _ => by simp [blP]
  | b :: a, r, h => by
    simp only [List.mem_cons, not_or] at h
    rw [List.cons_append, blP, if_neg (fun e => h.1 e.symm), blP_at a r h.2]
    rfl
theorem blP_step {l : List UInt8} {k : Nat} {b : UInt8} (h : l[k]? = some b) : blP (l.drop k) = if b = 32 then 0 else blP (l.drop (k + 1)) + 1 := by
  obtain ⟨h1, h2⟩ := List.getElem?_eq_some_iff.1 h
  rw [List.drop_eq_getElem_cons h1, h2]; rfl
def lnP (s : ByteArray) : Nat := blP s.data.toList
/-- Whether a line is cut, its name and what stands behind. -/
def lnK (s : ByteArray) : Bool := decide (lnP s + 4 ≤ s.size) && decide (s.extract (lnP s) (lnP s + 3) = ⟨#[32, 61, 32]⟩)
def lnN (s : ByteArray) : ByteArray := s.extract 0 (lnP s)
def lnR (s : ByteArray) : ByteArray := s.extract (lnP s + 3) s.size
/-- The note of a line, as the reference cuts it. -/
def lnO (s : ByteArray) : Option Nt :=
  if lnK s = true then
    if (lnR s).data.toList.headD 0 = 91 then (rtO (lnR s)).map fun ts => ⟨lnN s, 2, 0, 0, ts, 0, 0, 0⟩
    else if (lnR s).data.toList.headD 0 = 40 then (rsO (lnR s)).map fun x => ⟨lnN s, 3, 0, 0, [], x.1, x.2.1, x.2.2⟩
    else (rfO (lnR s)).map fun x => ⟨lnN s, 1, x.1, x.2, [], 0, 0, 0⟩
  else none
theorem ln_cut {s : ByteArray} (h : lnK s = true) : s.data.toList = (lnN s).data.toList ++ ([32, 61, 32] ++ (lnR s).data.toList) := by
  unfold lnK at h
  simp only [Bool.and_eq_true, decide_eq_true_iff] at h
  obtain ⟨h1, h2⟩ := h
  have hz := size_list s
  have e2 := congrArg (fun x : ByteArray => x.data.toList) h2
  simp only [ext_list] at e2
  unfold lnN lnR
  rw [ext_list, ext_list, List.drop_zero, Nat.sub_zero, List.take_of_length_le (l := s.data.toList.drop (lnP s + 3)) (by rw [List.length_drop]; omega)]
  rw [show lnP s + 3 - lnP s = 3 by omega] at e2
  have e3 : s.data.toList.drop (lnP s) = [32, 61, 32] ++ s.data.toList.drop (lnP s + 3) := by
    rw [← List.take_append_drop 3 (s.data.toList.drop (lnP s)), e2, List.drop_drop]
  rw [← e3, List.take_append_drop]
theorem lnO_cut {s : ByteArray} {x : Nt} (h : lnO s = some x) : ntL x = s.data.toList := by
  unfold lnO at h
  split at h
  · next hk =>
    have hc := ln_cut hk
    have key : x.name = lnN s ∧ ntBody x = lnR s := by
      split at h
      · cases hr : rtO (lnR s) with
        | none => rw [hr] at h; cases h
        | some y =>
          rw [hr] at h
          simp only [Option.map_some, Option.some.injEq] at h
          subst h
          refine ⟨rfl, ?_⟩
          unfold ntBody
          rw [if_neg (by simp), if_pos rfl]
          exact (rtO_iff.1 hr).2
      · split at h
        · cases hr : rsO (lnR s) with
          | none => rw [hr] at h; cases h
          | some y =>
            rw [hr] at h
            simp only [Option.map_some, Option.some.injEq] at h
            subst h
            refine ⟨rfl, ?_⟩
            unfold ntBody
            rw [if_neg (by simp), if_neg (by simp)]
            exact (rsO_iff.1 (show rsO (lnR s) = some (y.1, y.2.1, y.2.2) from hr)).2
        · cases hr : rfO (lnR s) with
          | none => rw [hr] at h; cases h
          | some y =>
            rw [hr] at h
            simp only [Option.map_some, Option.some.injEq] at h
            subst h
            refine ⟨rfl, ?_⟩
            unfold ntBody
            rw [if_pos rfl]
            exact (rfO_iff.1 (show rfO (lnR s) = some (y.1, y.2) from hr)).2
    unfold ntL
    rw [key.1, key.2, hc]
  · cases h
theorem body_pos {x : Nt} (h : ntOk x = true) : 1 ≤ (ntBody x).size := by
  rcases ntKnd h with ⟨k, _⟩ | ⟨k, k2⟩ | ⟨k, _⟩
  · unfold ntBody; rw [if_pos k]; have := frT_ne x.num x.den; omega
  · unfold ntBody
    rw [if_neg (by omega), if_pos k, ← size_list, tmT_list (termsBBd k2).2.1]
    simp
  · unfold ntBody
    rw [if_neg (by omega), if_neg (by omega), ← size_list, sdT_list]
    simp
theorem lnO_line {x : Nt} (h : ntOk x = true) : lnO (mkL (ntL x)) = some x := by
  have hn := name_no (ntOk_name h) (c := 32) (by decide)
  have hp : lnP (mkL (ntL x)) = x.name.size := by
    unfold lnP
    rw [mkL_data]
    unfold ntL
    rw [show x.name.data.toList ++ (32 :: [61, 32] ++ (ntBody x).data.toList) = x.name.data.toList ++ 32 :: ([61, 32] ++ (ntBody x).data.toList) from rfl, blP_at _ _ hn, size_list]
  have hl : (mkL (ntL x)).data.toList = x.name.data.toList ++ ([32, 61, 32] ++ (ntBody x).data.toList) := by rw [mkL_data]; rfl
  have hsz : (mkL (ntL x)).size = x.name.size + 3 + (ntBody x).size := by
    rw [← size_list, hl, List.length_append, List.length_append, size_list, size_list]
    simp; omega
  have hb := body_pos h
  have e1 : lnN (mkL (ntL x)) = x.name := by
    unfold lnN
    rw [hp, ← back_bytes (ByteArray.extract _ _ _), ext_list, hl, List.drop_zero, Nat.sub_zero, ← size_list, List.take_left, back_bytes]
  have hd : (mkL (ntL x)).data.toList.drop (x.name.size) = [32, 61, 32] ++ (ntBody x).data.toList := by
    rw [hl, ← size_list, List.drop_left]
  have e2 : lnR (mkL (ntL x)) = ntBody x := by
    unfold lnR
    rw [hp, ← back_bytes (ByteArray.extract _ _ _), ext_list, ← List.drop_drop, hd, hsz]
    rw [show List.drop 3 ([32, 61, 32] ++ (ntBody x).data.toList) = (ntBody x).data.toList from rfl, List.take_of_length_le (by rw [size_list]; omega), back_bytes]
  have e3 : lnK (mkL (ntL x)) = true := by
    unfold lnK
    rw [hp, hsz]
    simp only [Bool.and_eq_true, decide_eq_true_iff]
    refine ⟨by omega, ?_⟩
    rw [← back_bytes (ByteArray.extract _ _ _), ext_list, hd, show x.name.size + 3 - x.name.size = 3 by omega]
    rfl
  have hk := h
  unfold ntOk at hk
  rw [Bool.and_eq_true] at hk
  obtain ⟨_, hk⟩ := hk
  unfold lnO
  rw [if_pos e3, e1, e2]
  obtain ⟨nm, kd, nu, de, ts, sp, sd, sq⟩ := x
  unfold ntBody
  simp only at hk ⊢
  split at hk
  · next h1 =>
    subst h1
    simp only [Bool.and_eq_true, Nt.zT, Nt.zS, decide_eq_true_iff, beq_iff_eq, List.length_eq_zero_iff] at hk
    obtain ⟨k1, rfl, rfl, rfl, rfl⟩ := hk
    obtain ⟨b, l, f1, f2⟩ := frT_head nu de
    have g1 : ¬ (b :: l).headD 0 = 91 := by rw [List.headD_cons]; rintro rfl; revert f2; decide
    have g2 : ¬ (b :: l).headD 0 = 40 := by rw [List.headD_cons]; rintro rfl; revert f2; decide
    rw [if_pos rfl, f1, if_neg g1, if_neg g2, rfO_iff.2 ⟨k1, rfl⟩]
    rfl
  · next h1 =>
    split at hk
    · next h2 =>
      subst h2
      simp only [Bool.and_eq_true, Nt.zF, Nt.zS, beq_iff_eq] at hk
      obtain ⟨k1, ⟨rfl, rfl⟩, rfl, rfl, rfl⟩ := hk
      obtain ⟨l, f1⟩ := tmT_head k1
      rw [if_neg (show ¬ (2 : Int) = 1 by decide), if_pos (show (2 : Int) = 2 from rfl), f1, if_pos (show (91 :: l).headD 0 = 91 from rfl), rtO_iff.2 ⟨k1, rfl⟩]
      rfl
    · next h2 =>
      split at hk
      · next h3 =>
        subst h3
        simp only [Bool.and_eq_true, Nt.zF, Nt.zT, decide_eq_true_iff, beq_iff_eq, List.length_eq_zero_iff] at hk
        obtain ⟨k1, ⟨rfl, rfl⟩, rfl⟩ := hk
        obtain ⟨l, f1⟩ : ∃ l, (sdT sp sd sq).data.toList = 40 :: l := ⟨_, sdT_list sp sd sq⟩
        have g1 : ¬ ((40 : UInt8) :: l).headD 0 = 91 := by rw [List.headD_cons]; decide
        rw [if_neg (show ¬ (3 : Int) = 1 by decide), if_neg (show ¬ (3 : Int) = 2 by decide), f1, if_neg g1, if_pos (show ((40 : UInt8) :: l).headD 0 = 40 from rfl), rsO_iff.2 ⟨k1, rfl⟩]
        rfl
      · cases hk
/-- The notes of lines; none if one tells none. -/
def lnsO : List ByteArray → Option (List Nt)
  | [] => some []
  | s :: ss => match lnO s with
    | none => none
    | some x => (lnsO ss).map (x :: ·)
theorem lns_none {ss : List ByteArray} {k : Nat} {s : ByteArray} (hk : ss[k]? = some s) (h : lnO s = none) : lnsO ss = none := by
  induction ss generalizing k with
  | nil => simp at hk
  | cons y ss ih =>
    unfold lnsO
    cases k with
    | zero =>
      simp at hk
      subst hk
      rw [h]
    | succ k =>
      rw [ih (k := k) (by simpa using hk)]
      cases lnO y <;> rfl
theorem lns_take {ss : List ByteArray} {k : Nat} {s : ByteArray} {L : List Nt} {x : Nt} (h : lnsO (ss.take k) = some L) (hk : ss[k]? = some s) (hn : lnO s = some x) : lnsO (ss.take (k + 1)) = some (L ++ [x]) := by
  induction ss generalizing k L with
  | nil => simp at hk
  | cons y ss ih =>
    cases k with
    | zero =>
      simp at hk
      subst hk
      simp [lnsO] at h
      subst h
      simp [lnsO, hn]
    | succ k =>
      rw [List.take_succ_cons, lnsO] at h ⊢
      cases hx : lnO y with
      | none => rw [hx] at h; cases h
      | some m =>
        rw [hx] at h
        simp only at h ⊢
        cases hr : lnsO (ss.take k) with
        | none => rw [hr] at h; cases h
        | some rs =>
          rw [hr] at h
          simp only [Option.map_some, Option.some.injEq] at h
          subst h
          rw [ih hr (by simpa using hk)]
          rfl
theorem lns_flat {ss : List ByteArray} {L : List Nt} (h : lnsO ss = some L) : (ss.flatMap fun x => x.data.toList ++ [10]) = L.flatMap fun x => ntL x ++ [10] := by
  induction ss generalizing L with
  | nil => simp [lnsO] at h; subst h; rfl
  | cons y ss ih =>
    rw [lnsO] at h
    cases hx : lnO y with
    | none => rw [hx] at h; cases h
    | some m =>
      rw [hx] at h
      simp only at h
      cases hr : lnsO ss with
      | none => rw [hr] at h; cases h
      | some rs =>
        rw [hr] at h
        simp only [Option.map_some, Option.some.injEq] at h
        subst h
        rw [List.flatMap_cons, List.flatMap_cons, ih hr, lnO_cut hx]
theorem sp_lines : ∀ (xs : List Nt), (∀ x ∈ xs, ntOk x = true) → (spA 10 [] (xs.flatMap fun x => ntL x ++ [10])).map mkL = (xs.map fun x => mkL (ntL x)) ++ [⟨#[]⟩]
  | [], _ => by simp [spA]; rfl
  | x :: xs, h => by
    rw [List.flatMap_cons, List.append_assoc, List.singleton_append, spA_at _ _ _ (ntL_no (h x (by simp))), List.map_cons, List.map_cons, sp_lines xs (fun y hy => h y (List.mem_cons_of_mem _ hy))]
    rfl
theorem lns_all : ∀ (xs : List Nt), (∀ x ∈ xs, ntOk x = true) → lnsO (xs.map fun x => mkL (ntL x)) = some xs
  | [], _ => rfl
  | x :: xs, h => by
    rw [List.map_cons, lnsO, lnO_line (h x (by simp)), lns_all xs (fun y hy => h y (List.mem_cons_of_mem _ hy))]
    rfl
/-- What the reference finds. -/
theorem rn_ref {s : ByteArray} {ls : List ByteArray} {e : ByteArray} (hs : spB 10 s = ls ++ [e]) :
    (e = ⟨#[]⟩ → ∀ L, lnsO ls = some L → validNt L = true → rnO s = some L) ∧ (e ≠ ⟨#[]⟩ → rnO s = none) ∧ (40 < ls.length → rnO s = none) ∧ (lnsO ls = none → rnO s = none) ∧ (∀ L, lnsO ls = some L → validNt L = false → rnO s = none) := by
  have key : ∀ L, rnO s = some L → e = ⟨#[]⟩ ∧ ls.length ≤ 40 ∧ lnsO ls = some L ∧ validNt L = true := fun L h => by
    obtain ⟨h1, h2⟩ := rnO_iff.1 h
    have h3 := valid_each h1
    have e1 : s.data.toList = L.flatMap fun x => ntL x ++ [10] := by rw [← h2, ntsO_flat L _ (Nat.le_refl _), List.take_length]
    have e2 := sp_lines L h3
    rw [← e1] at e2
    have e3 : ls ++ [e] = (L.map fun x => mkL (ntL x)) ++ [⟨#[]⟩] := by rw [← hs]; exact e2
    obtain ⟨e4, e5'⟩ := List.append_inj' e3 rfl
    have e5 : e = ⟨#[]⟩ := by injection e5'
    refine ⟨e5, ?_, by rw [e4]; exact lns_all L h3, h1⟩
    rw [e4, List.length_map]
    unfold validNt at h1
    rw [Bool.and_eq_true, decide_eq_true_iff] at h1
    exact h1.2
  have no : (∀ L, rnO s = some L → False) → rnO s = none := fun h => by
    cases hr : rnO s with
    | none => rfl
    | some L => exact (h L hr).elim
  refine ⟨fun he L hL hv => rnO_iff.2 ⟨hv, ?_⟩, fun he => no fun L h => he (key L h).1, fun hl => no fun L h => (by have := (key L h).2.1; omega), fun hl => no fun L h => (by have := (key L h).2.2.1; rw [hl] at this; cases this), fun L hL hv => no fun M h => ?_⟩
  · have hj := lns_flat hL
    have e1 : s.data.toList = ls.flatMap fun x => x.data.toList ++ [10] := by
      subst he
      have hsp : spA 10 [] s.data.toList = ls.map (fun x => x.data.toList) ++ [[]] := by
        have h0 := congrArg (List.map fun x : ByteArray => x.data.toList) hs
        unfold spB at h0
        rw [List.map_map, List.map_append] at h0
        have : ((fun x : ByteArray => x.data.toList) ∘ fun l : List UInt8 => (⟨l.toArray⟩ : ByteArray)) = id := funext fun l => by simp
        rw [this, List.map_id] at h0
        exact h0
      have h2 := jn_spA 10 s.data.toList []
      rw [hsp, List.nil_append] at h2
      rw [← h2]
      have gen : ∀ (m : List ByteArray), jnA 10 (m.map (fun x => x.data.toList) ++ [[]]) = m.flatMap fun x => x.data.toList ++ [10] := fun m => by
        cases m with
        | nil => rfl
        | cons y m =>
          simp only [List.map_cons, List.cons_append, jnA, List.flatMap_cons, List.append_assoc]
          congr 1
          induction m with
          | nil => rfl
          | cons z m ih =>
            simp only [List.map_cons, List.cons_append, List.flatMap_cons, List.append_assoc]
            rw [ih]
            simp
      exact gen ls
    rw [← back_bytes (ntsO L L.length), ntsO_flat L _ (Nat.le_refl _), List.take_length, ← hj, ← e1, back_bytes]
  · obtain ⟨_, _, h3, h4⟩ := key M h
    rw [hL] at h3
    injection h3 with h3
    subst h3
    rw [hv] at h4
    cases h4
end Go.Proofs.YtpnabggpdgjbmaaGreatDoor
