/- Parts of the proof, merged: PlaceP PlaceW PlaceQ CopyNtW InsNtP. No condition but those that each theorem names. -/
import Derived.Test.YtpnabggpdgjbmaaGreatDoorMgAK
import Derived.Test.YtpnabggpdgjbmaaGreatDoorMgAH
import Derived.Test.YtpnabggpdgjbmaaGreatDoorShelf
import Derived.Test.YtpnabggpdgjbmaaGreatDoorMgAN
import Derived.Test.YtpnabggpdgjbmaaGreatDoorMgAQ
import Derived.Test.YtpnabggpdgjbmaaGreatDoorMgAV
import Derived.Lib.Overlaps
namespace Go.Proofs.YtpnabggpdgjbmaaGreatDoor
open Go.RowKit Go.Sort
/-- The place of a name, the first, from k on. -/
def fndN (s : ByteArray) : List Nt → Nat → Int
  | [], _ => -1
  | x :: xs, k => if x.name = s then (k : Int) else fndN s xs (k + 1)
theorem fndN_yes {s : ByteArray} {xs : List Nt} {k : Nat} {x : Nt} (hx : xs[k]? = some x) (h : x.name = s) : fndN s (xs.drop k) k = (k : Int) := by
  obtain ⟨hlt, rfl⟩ := List.getElem?_eq_some_iff.1 hx
  rw [List.drop_eq_getElem_cons hlt, fndN, if_pos h]
theorem fndN_next {s : ByteArray} {xs : List Nt} {k : Nat} {x : Nt} (hx : xs[k]? = some x) (h : ¬ x.name = s) : fndN s (xs.drop k) k = fndN s (xs.drop (k + 1)) (k + 1) := by
  obtain ⟨hlt, rfl⟩ := List.getElem?_eq_some_iff.1 hx
  rw [List.drop_eq_getElem_cons hlt, fndN, if_neg h]
theorem fndN_end {s : ByteArray} {xs : List Nt} {k : Nat} (h : ¬ k < xs.length) : fndN s (xs.drop k) k = -1 := by
  rw [List.drop_eq_nil_of_le (by omega), fndN]
set_option maxHeartbeats 1000000 in
theorem l27Find_any (A : Option Addr) (c : Nat) (xs : List Nt) (s : ByteArray) (w : World) (hr : RdNt w w.heap.size A xs) (hl : xs.length ≤ maxLen) :
    Calls Tryz.prog 41 #[.slice A xs.length c, .string s] w fun e w' => e = .returned (.int .i64 (fndN s xs 0)) ∧ Below w.heap.size w w' := by
  unfold maxLen at hl
  obtain ⟨R, hR⟩ : ∃ R, fndN s xs 0 = R := ⟨_, rfl⟩
  rw [hR]
  have HR : Hid (fndN s (xs.drop 0) 0 = R) := by unfold Hid; rw [List.drop_zero]; exact hR
  clear hR
  go_enter Tryz.func41, Tryz.ntmps41
  go_wp2_with fail
  go_loopw [5] (fun t wr => ∃ k : Nat, k ≤ xs.length ∧ t = .int .i64 k ∧ Hid (fndN s (xs.drop k) k = R) ∧ Below w.heap.size w wr) (fun t _ => xs.length - (intOf t).toNat)
  case atStart => exact ⟨0, by omega, rfl, HR.out, Below.refl _ _⟩
  case round =>
    obtain ⟨k, hk, rfl, HK, hbe⟩ := hrel
    by_cases hlt : k < xs.length
    · obtain ⟨b, off, rfl, hb, hc⟩ := (hr.next hbe) (by omega)
      obtain ⟨x, hxk⟩ : ∃ x, xs[k]? = some x := ⟨_, List.getElem?_eq_getElem hlt⟩
      obtain ⟨T, ct, cr, cT⟩ := hc k x hxk
      have c0 := cr.nt.c0
      have i0 : (0 : Int) ≤ (k : Int) := by omega
      have i1 : (k : Int) < (xs.length : Int) := by omega
      by_cases hn : x.name = s
      · have HE : Hid (R = (k : Int)) := HK.out.symm.trans (fndN_yes hxk hn)
        subst hn
        clear hc hxk cr cT
        go_wp2
        go_ret
        exact ⟨ret_int HE.out.symm, hbe⟩
      · have HE : Hid (fndN s (xs.drop (k + 1)) (k + 1) = R) := (fndN_next hxk hn).symm.trans HK.out
        have hn' := strNe hn
        clear hc hxk cr cT
        go_wp2
        go_roundw
        case rel => exact ⟨k + 1, by omega, by go_num, HE.out, hbe⟩
        case measure => simp [intOf]; omega
    · have HE : Hid (-1 = R) := (fndN_end hlt).symm.trans HK.out
      go_wp2
      go_ret
      exact ⟨ret_int HE.out, hbe⟩
end Go.Proofs.YtpnabggpdgjbmaaGreatDoor
namespace Go.Proofs.YtpnabggpdgjbmaaGreatDoor
open Go.RowKit Go.Sort
def cmpS (a b : ByteArray) : Int := Lib.compareBytes a.data.toList b.data.toList
theorem cmpL_lt : ∀ a b : List UInt8, (Lib.compareBytes a b < 0 ↔ Op.bytesLess a b = true) ∧ (Lib.compareBytes a b = 0 ↔ a = b)
  | [], [] => by simp [Lib.compareBytes, Op.bytesLess]
  | [], _ :: _ => by simp [Lib.compareBytes, Op.bytesLess]
  | _ :: _, [] => by simp [Lib.compareBytes, Op.bytesLess]
  | a :: l, b :: m => by
    obtain ⟨i1, i2⟩ := cmpL_lt l m
    unfold Lib.compareBytes Op.bytesLess
    by_cases h1 : a < b
    · have hne : a ≠ b := fun h => by subst h; exact absurd h1 (UInt8.lt_irrefl _)
      simp [h1, hne]
    · by_cases h2 : b < a
      · have hne : a ≠ b := fun h => by subst h; exact absurd h2 (UInt8.lt_irrefl _)
        simp [h1, h2, hne]
      · have he : a = b := UInt8.le_antisymm (UInt8.not_lt.1 h2) (UInt8.not_lt.1 h1)
        subst he
        simp [h1, i1, i2]
theorem cmpS_lt {a b : ByteArray} : cmpS a b < 0 ↔ ltB a b = true := by
  rw [cmpS, ltB, ByteArray.toList_eq, ByteArray.toList_eq]; exact (cmpL_lt _ _).1
theorem cmpS_eq {a b : ByteArray} : cmpS a b = 0 ↔ a = b := by
  rw [cmpS]
  exact ⟨fun h => ByteArray.ext (Array.ext' ((cmpL_lt _ _).2.1 h)), fun h => by rw [h]; exact (cmpL_lt _ _).2.2 rfl⟩
/-- A list that a name parts: below the place all less, from it on none. -/
structure Spl (s : ByteArray) (xs : List Nt) (i j : Nat) : Prop where
  lo : ∀ t x, t < i → xs[t]? = some x → ltB x.name s = true
  hi : ∀ t x, j ≤ t → xs[t]? = some x → ltB x.name s = false
def Mono (s : ByteArray) (xs : List Nt) : Prop := ∀ (p q : Nat) (x y : Nt), p ≤ q → xs[p]? = some x → xs[q]? = some y → ltB y.name s = true → ltB x.name s = true
theorem Spl.up {s : ByteArray} {xs : List Nt} {i j h : Nat} {x : Nt} (S : Spl s xs i j) (M : Mono s xs) (hx : xs[h]? = some x) (hl : ltB x.name s = true) : Spl s xs (h + 1) j :=
  ⟨fun t y ht hy => M t h y x (by omega) hy hx hl, S.hi⟩
theorem Spl.down {s : ByteArray} {xs : List Nt} {i j h : Nat} {x : Nt} (S : Spl s xs i j) (M : Mono s xs) (hx : xs[h]? = some x) (hl : ltB x.name s = false) : Spl s xs i h :=
  ⟨S.lo, fun t y ht hy => by
    cases hb : ltB y.name s
    · rfl
    · rw [M h t x y ht hx hy hb] at hl; exact absurd hl (by simp)⟩
def fdB (s : ByteArray) (xs : List Nt) (k : Nat) : Bool := match xs[k]? with
  | none => false
  | some x => decide (cmpS x.name s = 0)
theorem placeF_any (x : Nt) (T : Option Addr) (c : Nat) (s : ByteArray) (w : World) :
    Calls Tryz.prog 80 #[ntV x.name x.kind x.num x.den T x.terms.length c x.sp x.sd x.sq, .string s] w fun e w' => e = .returned (.int .i64 (cmpS x.name s)) ∧ Below w.heap.size w w' := by
  have HC : Hid (∀ W : World, Calls Tryz.prog 81 #[.string x.name, .string s] W fun e w' => e = .returned (.int .i64 (cmpS x.name s)) ∧ W = w') := fun W => (Tryz.strings_Compare x.name s W).mono fun e w' h => ⟨h.1, h.2.symm⟩
  generalize cmpS x.name s = R at *
  unfold ntV
  go_enter Tryz.func80, Tryz.ntmps80
  go_wp2_with fail
  refine (HC.out _).mono ?_
  rintro e w' ⟨rfl, rfl⟩
  go_wp2
  go_ret
  exact ⟨rfl, ext1 _ _⟩
set_option maxRecDepth 100000 in
set_option maxHeartbeats 2000000 in
theorem searchNt_any (A : Option Addr) (c : Nat) (xs : List Nt) (s : ByteArray) (w : World) (hr : RdNt w w.heap.size A xs) (hl : xs.length ≤ 1048576) (hm : Mono s xs) :
    Calls Tryz.prog 79 #[.slice A xs.length c, .string s, .func (Fn.func 80) #[] #[]] w fun e w' => ∃ k : Nat, k ≤ xs.length ∧ Spl s xs k k ∧ e = .returned (.tuple #[.int .i64 (k : Int), .bool (fdB s xs k)]) ∧ Below w.heap.size w w' := by
  have HM := Lib.hid hm
  clear hm
  have HF := Lib.hid (fun (x : Nt) (T : Option Addr) (c : Nat) (W : World) => placeF_any x T c s W)
  unfold ntV at HF
  go_enter Tryz.func79, Tryz.ntmps79
  go_wp2_with fail
  go_loopw [9, 10] (fun u v wr => ∃ i j : Nat, u = .int .i64 (i : Int) ∧ v = .int .i64 (j : Int) ∧ i ≤ j ∧ j ≤ xs.length ∧ Hid (Spl s xs i j) ∧ Below w.heap.size w wr) (fun u v _ => (intOf v).toNat - (intOf u).toNat)
  case atStart => exact ⟨0, xs.length, rfl, rfl, by omega, by omega, ⟨fun t x h => absurd h (by omega), fun t x h1 h2 => by rw [List.getElem?_eq_none (by omega)] at h2; simp at h2⟩, Below.refl _ _⟩
  case round =>
    obtain ⟨i, j, rfl, rfl, hij, hj, HP, hbe⟩ := hrel
    by_cases hlt : i < j
    · obtain ⟨h, hh⟩ : ∃ h, (i + j) / 2 = h := ⟨_, rfl⟩
      have hlt2 : h < xs.length := by omega
      obtain ⟨b, off, rfl, hb, hc⟩ := (hr.next hbe) (by omega)
      obtain ⟨x, hxk⟩ : ∃ x, xs[h]? = some x := ⟨_, List.getElem?_eq_getElem hlt2⟩
      obtain ⟨T, ct, cr, cT⟩ := hc h x hxk
      obtain ⟨c0, c1, c2, c3, c4, c5, c6, c7⟩ := cr.nt
      have i0 : (0 : Int) ≤ (h : Int) := by omega
      have i1 : (h : Int) < (xs.length : Int) := by omega
      have HX := Lib.hid hxk
      have hd1 : ((i : Int) + (j : Int)) / 2 = (h : Int) := by omega
      have HC := Lib.hid (fun W => HF.out x T ct W)
      have hsg : cmpS x.name s < 0 ↔ ltB x.name s = true := cmpS_lt
      generalize cmpS x.name s = q at *
      clear hc hxk cr cT HF
      cases hlb : ltB x.name s
      · have HN := Lib.hid (HP.out.down HM.out HX.out hlb)
        have hq : ¬ q < 0 := by rw [hsg, hlb]; simp
        clear hsg hlb
        go_wp2_with fail
        refine (HC.out _).mono ?_
        rintro e w2 ⟨rfl, hb2⟩
        clear c0 c1 c2 c3 c4 c5 c6 c7
        go_wp2
        go_roundw
        case rel => exact ⟨i, h, rfl, rfl, by omega, by omega, HN.out, ext_trans hbe hb2⟩
        case measure => simp [intOf]; omega
      · have HN := Lib.hid (HP.out.up HM.out HX.out hlb)
        have hq : q < 0 := by rw [hsg, hlb]
        clear hsg hlb
        go_wp2_with fail
        refine (HC.out _).mono ?_
        rintro e w2 ⟨rfl, hb2⟩
        clear c0 c1 c2 c3 c4 c5 c6 c7
        go_wp2
        go_roundw
        case rel => exact ⟨h + 1, j, by go_num, rfl, by omega, by omega, HN.out, ext_trans hbe hb2⟩
        case measure => simp [intOf]; omega
    · obtain rfl : i = j := by omega
      by_cases hend : i < xs.length
      · obtain ⟨b, off, rfl, hb, hc⟩ := (hr.next hbe) (by omega)
        obtain ⟨x, hxk⟩ : ∃ x, xs[i]? = some x := ⟨_, List.getElem?_eq_getElem hend⟩
        obtain ⟨T, ct, cr, cT⟩ := hc i x hxk
        obtain ⟨c0, c1, c2, c3, c4, c5, c6, c7⟩ := cr.nt
        have i0 : (0 : Int) ≤ (i : Int) := by omega
        have i1 : (i : Int) < (xs.length : Int) := by omega
        have HE : Hid (fdB s xs i = decide (cmpS x.name s = 0)) := by unfold Hid fdB; rw [hxk]
        have HC := Lib.hid (fun W => HF.out x T ct W)
        generalize cmpS x.name s = q at *
        clear hc hxk cr cT HF
        by_cases hq : q = 0
        · subst hq
          have HE : Hid (fdB s xs i = true) := by unfold Hid; rw [HE.out]; rfl
          go_wp2_with fail
          refine (HC.out _).mono ?_
          rintro e w2 ⟨rfl, hb2⟩
          clear c0 c1 c2 c3 c4 c5 c6 c7
          go_wp2
          go_ret2
          exact ⟨i, by omega, HP.out, by rw [HE.out]; rfl, ext_trans hbe hb2⟩
        · have HE : Hid (fdB s xs i = false) := by unfold Hid; rw [HE.out]; simp [hq]
          have hq0 : (q == 0) = false := by simpa using hq
          go_wp2_with fail
          refine (HC.out _).mono ?_
          rintro e w2 ⟨rfl, hb2⟩
          clear c0 c1 c2 c3 c4 c5 c6 c7
          go_wp2
          go_ret2
          exact ⟨i, by omega, HP.out, by rw [HE.out]; rfl, ext_trans hbe hb2⟩
      · have HE : Hid (fdB s xs i = false) := by unfold Hid fdB; rw [List.getElem?_eq_none (by omega)]
        have i1 : ¬ (i : Int) < (xs.length : Int) := by omega
        go_wp2
        go_ret2
        exact ⟨i, by omega, HP.out, by rw [HE.out]; rfl, hbe⟩
theorem placeOf_any (A : Option Addr) (c : Nat) (xs : List Nt) (s : ByteArray) (w : World) (hr : RdNt w w.heap.size A xs) (hl : xs.length ≤ 1048576) (hm : Mono s xs) :
    Calls Tryz.prog 35 #[.slice A xs.length c, .string s] w fun e w' => ∃ k : Nat, k ≤ xs.length ∧ Spl s xs k k ∧ e = .returned (.tuple #[.int .i64 (k : Int), .bool (fdB s xs k)]) ∧ Below w.heap.size w w' := by
  have HS := Lib.hid (searchNt_any A c xs s w hr hl hm)
  go_enter Tryz.func35, Tryz.ntmps35
  go_wp2_with fail
  refine HS.out.mono ?_
  rintro e w2 ⟨k, hk, hp, rfl, hb2⟩
  go_wp2
  go_ret2
  exact ⟨k, hk, hp, rfl, hb2⟩
end Go.Proofs.YtpnabggpdgjbmaaGreatDoor
namespace Go.Proofs.YtpnabggpdgjbmaaGreatDoor
open Go.RowKit Go.Sort
theorem bl_irr : ∀ a : List UInt8, Op.bytesLess a a = false
  | [] => rfl
  | a :: l => by unfold Op.bytesLess; simp [bl_irr l]
theorem bl_trans : ∀ a b c : List UInt8, Op.bytesLess a b = true → Op.bytesLess b c = true → Op.bytesLess a c = true
  | _, [], _, h, _ => by simp [Op.bytesLess] at h
  | _, _ :: _, [], _, h => by simp [Op.bytesLess] at h
  | [], _ :: _, _ :: _, _, _ => by simp [Op.bytesLess]
  | a :: l, b :: m, c :: n, h1, h2 => by
    have ih := bl_trans l m n
    simp only [Op.bytesLess, Bool.or_eq_true, decide_eq_true_eq, Bool.and_eq_true, beq_iff_eq] at h1 h2 ⊢
    rcases h1 with h1 | ⟨rfl, h1⟩
    · rcases h2 with h2 | ⟨rfl, h2⟩
      · exact .inl (UInt8.lt_trans h1 h2)
      · exact .inl h1
    · rcases h2 with h2 | ⟨rfl, h2⟩
      · exact .inl h2
      · exact .inr ⟨rfl, ih h1 h2⟩
theorem ltB_irr (a : ByteArray) : ltB a a = false := bl_irr _
theorem ltB_trans {a b c : ByteArray} (h1 : ltB a b = true) (h2 : ltB b c = true) : ltB a c = true := bl_trans _ _ _ h1 h2
theorem validNt_len {xs : List Nt} (h : validNt xs = true) : xs.length ≤ 40 := by
  unfold validNt at h; rw [Bool.and_eq_true] at h; exact of_decide_eq_true h.2
theorem validNt_at {xs : List Nt} (h : validNt xs = true) {k : Nat} (hk : k < xs.length) : okAtX xs k = true := by
  unfold validNt at h; rw [Bool.and_eq_true] at h
  cases ha : okAtX xs k
  · rw [okToX_false ha _ hk] at h; exact absurd h.1 (by simp)
  · rfl
theorem validNt_ok {xs : List Nt} (h : validNt xs = true) {k : Nat} {x : Nt} (hx : xs[k]? = some x) : ntOk x = true := by
  have hk := (List.getElem?_eq_some_iff.1 hx).1
  have := validNt_at h hk
  unfold okAtX at this
  rw [hx] at this
  simp only [Bool.and_eq_true] at this
  exact this.1
theorem validNt_step {xs : List Nt} (h : validNt xs = true) {k : Nat} {x y : Nt} (hx : xs[k]? = some x) (hy : xs[k + 1]? = some y) : ltB x.name y.name = true := by
  have hk := (List.getElem?_eq_some_iff.1 hy).1
  have := validNt_at h hk
  unfold okAtX at this
  rw [hy] at this
  simp only [Nat.add_sub_cancel, hx, Bool.and_eq_true] at this
  have h2 := this.2
  rw [if_neg (by omega)] at h2
  exact h2
theorem validNt_lt {xs : List Nt} (h : validNt xs = true) (p : Nat) (x : Nt) (hx : xs[p]? = some x) : ∀ (d : Nat) (y : Nt), xs[p + d + 1]? = some y → ltB x.name y.name = true
  | 0, y, hy => validNt_step h hx hy
  | d + 1, y, hy => by
    have hk := (List.getElem?_eq_some_iff.1 hy).1
    obtain ⟨z, hz⟩ : ∃ z, xs[p + d + 1]? = some z := ⟨_, List.getElem?_eq_getElem (by omega)⟩
    exact ltB_trans (validNt_lt h p x hx d z hz) (validNt_step h hz hy)
theorem validNt_mono {xs : List Nt} (h : validNt xs = true) (s : ByteArray) : Mono s xs := fun p q x y hpq hx hy hl => by
  rcases Nat.eq_or_lt_of_le hpq with rfl | hlt
  · rw [hx] at hy; cases hy; exact hl
  · exact ltB_trans (validNt_lt h p x hx (q - p - 1) y (by rw [show p + (q - p - 1) + 1 = q by omega]; exact hy)) hl
theorem fndN_skip {s : ByteArray} {xs : List Nt} (a : Nat) : ∀ (d : Nat), (∀ t x, a ≤ t → t < a + d → xs[t]? = some x → ¬ x.name = s) → a + d ≤ xs.length → fndN s (xs.drop a) a = fndN s (xs.drop (a + d)) (a + d)
  | 0, _, _ => rfl
  | d + 1, h, hl => by
    obtain ⟨x, hx⟩ : ∃ x, xs[a + d]? = some x := ⟨_, List.getElem?_eq_getElem (by omega)⟩
    rw [fndN_skip a d (fun t y h1 h2 => h t y h1 (by omega)) (by omega), fndN_next hx (h (a + d) x (by omega) (by omega) hx)]
    rfl
/-- Both searches find the same place. -/
theorem fndN_spl {s : ByteArray} {xs : List Nt} {k : Nat} (h : validNt xs = true) (S : Spl s xs k k) (hk : k ≤ xs.length) : fndN s xs 0 = if fdB s xs k = true then (k : Int) else -1 := by
  have h1 : fndN s xs 0 = fndN s (xs.drop k) k := by
    have := fndN_skip (s := s) (xs := xs) 0 k (fun t x _ h2 hx he => by
      have := S.lo t x (by omega) hx
      rw [he, ltB_irr] at this; exact absurd this (by simp)) (by omega)
    rw [List.drop_zero, Nat.zero_add] at this
    exact this
  rw [h1]
  by_cases hf : fdB s xs k = true
  · rw [if_pos hf]
    unfold fdB at hf
    cases hx : xs[k]? with
    | none => rw [hx] at hf; simp at hf
    | some x =>
      rw [hx] at hf
      exact fndN_yes hx (cmpS_eq.1 (of_decide_eq_true hf))
  · rw [if_neg hf]
    have h2 := fndN_skip (s := s) (xs := xs) k (xs.length - k) (fun t x g1 g2 hx he => by
      obtain ⟨z, hz⟩ : ∃ z, xs[k]? = some z := ⟨_, List.getElem?_eq_getElem (by omega)⟩
      rcases Nat.eq_or_lt_of_le g1 with rfl | hlt
      · apply hf
        unfold fdB
        rw [hx]
        exact decide_eq_true (cmpS_eq.2 he)
      · have h3 := validNt_lt h k z hz (t - k - 1) x (by rw [show k + (t - k - 1) + 1 = t by omega]; exact hx)
        rw [he, S.hi k z (Nat.le_refl _) hz] at h3
        exact absurd h3 (by simp)) (by omega)
    rw [h2]
    exact fndN_end (by omega)
end Go.Proofs.YtpnabggpdgjbmaaGreatDoor
namespace Go.Proofs.YtpnabggpdgjbmaaGreatDoor
open Go.RowKit Go.Sort
theorem infoNtR : (Tryz.prog.info? 31).map (fun i => (i.zero, i.size, i.bytes)) = some (some (ntV ByteArray.empty 0 0 0 none 0 0 0 0 0), 8, 88) := by kernel_rfl
/-- What a copy of notes returns. -/
def RetNts (w : World) (xs : List Nt) (e : Ending) (w' : World) : Prop := ∃ (rs : List NtR) (own : Nat → Nat) (v : Value), e = .returned v ∧ rs.map NtR.x = xs ∧ OutNt w w.heap.size rs own v w'
theorem take_snocR {rs : List NtR} {k : Nat} {r : NtR} (h : rs[k]? = some r) : (rs.take (k + 1)).map NtR.x = (rs.take k).map NtR.x ++ [r.x] := by
  rw [List.take_add_one, h]; simp
set_option maxRecDepth 100000 in
set_option maxHeartbeats 4000000 in
theorem copyNotes_any (A : Option Addr) (c : Nat) (rs : List NtR) (w : World) (hr : RdR w w.heap.size A rs) (hl : rs.length ≤ 1048576) (hf : ∀ r ∈ rs, r.x.terms.length ≤ 1048576) :
    Calls Tryz.prog 37 #[.slice A rs.length c] w (RetNts w (rs.map NtR.x)) := by
  obtain ⟨ti, hi, hz0, hz1, hz2⟩ := info_parts infoNtR
  have HI := Lib.hid hi
  have HF := Lib.hid hf
  have HCN := Lib.hid (fun (x : Nt) (T : Option Addr) (ct : Nat) (W : World) (h : RdT W W.heap.size T ct x.terms) (h2 : x.terms.length ≤ 1048576) => copyNote_any x T ct W h h2)
  unfold RetNt at HCN
  have H0 := Lib.hid (OutNt.start w)
  unfold RetNts
  clear hi hf
  go_enter Tryz.func37, Tryz.ntmps37
  go_wp2_with fail
  go_loopw [8, 3] (fun t v wr => ∃ (k : Nat) (out : List NtR) (own : Nat → Nat), k ≤ rs.length ∧ t = .int .i64 k ∧ out.length ≤ k ∧ Hid (out.map NtR.x = (rs.take k).map NtR.x) ∧ Hid (OutNt w w.heap.size out own v wr)) (fun t _ _ => rs.length - (intOf t).toNat)
  case atStart => exact ⟨0, [], _, by omega, rfl, by simp, by unfold Hid; simp, H0.out⟩
  case round =>
    obtain ⟨k, out, own, hk, rfl, hok, HO, HV⟩ := hrel
    clear H0
    have hbe := HV.out.bel
    by_cases hlt : k < rs.length
    · skip
      obtain ⟨b, off, rfl, hb, hc⟩ := (hr.next hbe) (by omega)
      obtain ⟨r, hrk⟩ : ∃ r, rs[k]? = some r := ⟨_, List.getElem?_eq_getElem hlt⟩
      obtain ⟨cr, cT⟩ := hc k r hrk
      obtain ⟨x, T, ct⟩ := r
      have HNT := Lib.hid cr.nt
      obtain ⟨c0, c1, c2, c3, c4, c5, c6, c7⟩ := cr.nt
      have HX := Lib.hid (take_snocR hrk)
      have htx := HF.out _ (List.mem_of_getElem? hrk)
      simp only at c0 c1 c2 c3 c4 c5 c6 c7 cT htx
      have i0 : (0 : Int) ≤ (k : Int) := by omega
      have i1 : (k : Int) < (rs.length : Int) := by omega
      have HTT := Lib.hid cT
      clear hc hrk cr cT
      have HBX : Hid (Below wr.heap.size wr (wr.alloc (.cells #[.string x.name, .int .i64 x.kind, .int .i64 x.num, .int .i64 x.den, .slice T x.terms.length ct, .int .i64 x.sp, .int .i64 x.sd, .int .i64 x.sq] 31))) := ext1 _ _
      have HV1 := Lib.hid (HV.out.next HBX.out)
      have HC1 := Lib.hid (HCN.out x T ct _ (HTT.out.next HBX.out) htx)
      clear HV
      go_wp2_with fail
      generalize wr.alloc (.cells #[.string x.name, .int .i64 x.kind, .int .i64 x.num, .int .i64 x.den, .slice T x.terms.length ct, .int .i64 x.sp, .int .i64 x.sd, .int .i64 x.sq] 31) = W1 at *
      refine HC1.out.mono ?_
      rintro e w2 ⟨B2, d2, rfl, hw2, hb2⟩
      have hown := (HV1.out.next hb2).row.alloc (.cells #[.string x.name, .int .i64 x.kind, .int .i64 x.num, .int .i64 x.den, .slice B2 x.terms.length d2, .int .i64 x.sp, .int .i64 x.sd, .int .i64 x.sq] 31)
      have hhi := (HV1.out.next hb2).hi
      go_wp2_with (at_builtin; refine wpList_append_lies _ rfl _ _ 24 rfl w.heap.size 31 ti (ntV ByteArray.empty 0 0 0 none 0 0 0 0 0) 8 88 Tryz.underlying24 HI.out hz0 hz1 hz2 rfl (by decide) _ _ _ rfl hown ⟨w2.heap.size, 0, none⟩ 1 1 (ntC x B2 d2) rfl rfl (news_rowN _ _ _ rfl) ?c2 (by omega) ?c3 ?c4 ?c5 _ rfl ?_)
      case c2 => simp [ntC, Value.oneCell']
      case c3 => unfold maxLen; omega
      case c4 => omega
      case c5 => simp; omega
      intro g6 cap6 w6 hown3 hgrow hat hlt6
      have HP := Lib.hid (OutNt.push HV1.out hb2 hw2 (ext1 _ _) hown3 hgrow (by simpa only [World.size_alloc] using hat))
      have HE : Hid ((out ++ [(⟨x, B2, d2⟩ : NtR)]).map NtR.x = (rs.take (k + 1)).map NtR.x) := by
        unfold Hid
        rw [HX.out, List.map_append, HO.out]
        rfl
      clear hown3 hgrow hat hlt6
      go_wp2
      go_roundw
      case rel => exact ⟨k + 1, _, _, by omega, by go_num, by simp; omega, HE.out, HP.out⟩
      case measure => simp [intOf]; omega
    · have HE : Hid (out.map NtR.x = rs.map NtR.x) := by
        have h := HO.out
        rwa [List.take_of_length_le (by omega)] at h
      go_wp2
      go_ret
      exact ⟨out, own, _, rfl, HE.out, HV.out⟩
set_option maxRecDepth 100000 in
set_option maxHeartbeats 4000000 in
theorem l27Copy_any (A : Option Addr) (c : Nat) (rs : List NtR) (w : World) (hr : RdR w w.heap.size A rs) (hl : rs.length ≤ 1048576) (hf : ∀ r ∈ rs, r.x.terms.length ≤ 1048576) :
    Calls Tryz.prog 42 #[.slice A rs.length c] w (RetNts w (rs.map NtR.x)) := by
  obtain ⟨ti, hi, hz0, hz1, hz2⟩ := info_parts infoNtR
  have HI := Lib.hid hi
  have HF := Lib.hid hf
  have HCN := Lib.hid (fun (x : Nt) (b o : Nat) (T : Option Addr) (ct : Nat) (W : World) (h3 : NtAt W b o x T ct) (h : RdT W W.heap.size T ct x.terms) (h2 : x.terms.length ≤ 1048576) => l27Own_any x b o T ct W h3 h h2)
  unfold RetNt at HCN
  have H0 := Lib.hid (OutNt.start0 w)
  unfold RetNts
  clear hi hf
  go_enter Tryz.func42, Tryz.ntmps42
  go_wp2_with fail
  go_loopw [4, 3] (fun t v wr => ∃ (k : Nat) (out : List NtR) (own : Nat → Nat), k ≤ rs.length ∧ t = .int .i64 k ∧ out.length ≤ k ∧ Hid (out.map NtR.x = (rs.take k).map NtR.x) ∧ Hid (OutNt w w.heap.size out own v wr)) (fun t _ _ => rs.length - (intOf t).toNat)
  case atStart => exact ⟨0, [], _, by omega, rfl, by simp, by unfold Hid; simp, H0.out⟩
  case round =>
    obtain ⟨k, out, own, hk, rfl, hok, HO, HV⟩ := hrel
    clear H0
    have hbe := HV.out.bel
    by_cases hlt : k < rs.length
    · skip
      obtain ⟨b, off, rfl, hb, hc⟩ := (hr.next hbe) (by omega)
      obtain ⟨r, hrk⟩ : ∃ r, rs[k]? = some r := ⟨_, List.getElem?_eq_getElem hlt⟩
      obtain ⟨cr, cT⟩ := hc k r hrk
      obtain ⟨x, T, ct⟩ := r
      have HNT := Lib.hid cr.nt
      obtain ⟨c0, c1, c2, c3, c4, c5, c6, c7⟩ := cr.nt
      have HX := Lib.hid (take_snocR hrk)
      have htx := HF.out _ (List.mem_of_getElem? hrk)
      simp only at c0 c1 c2 c3 c4 c5 c6 c7 cT htx
      have i0 : (0 : Int) ≤ (k : Int) := by omega
      have i1 : (k : Int) < (rs.length : Int) := by omega
      have HTT := Lib.hid cT
      clear hc hrk cr cT
      have HV1 := HV
      have HC1 := Lib.hid (HCN.out x b (off + k * 8) T ct _ HNT.out HTT.out htx)
      clear HV
      go_wp2_with fail
      refine HC1.out.mono ?_
      rintro e w2 ⟨B2, d2, rfl, hw2, hb2⟩
      have hown := (HV1.out.next hb2).row.alloc (.cells #[.string x.name, .int .i64 x.kind, .int .i64 x.num, .int .i64 x.den, .slice B2 x.terms.length d2, .int .i64 x.sp, .int .i64 x.sd, .int .i64 x.sq] 31)
      have hhi := (HV1.out.next hb2).hi
      go_wp2_with (at_builtin; refine wpList_append_lies _ rfl _ _ 24 rfl w.heap.size 31 ti (ntV ByteArray.empty 0 0 0 none 0 0 0 0 0) 8 88 Tryz.underlying24 HI.out hz0 hz1 hz2 rfl (by decide) _ _ _ rfl hown ⟨w2.heap.size, 0, none⟩ 1 1 (ntC x B2 d2) rfl rfl (news_rowN _ _ _ rfl) ?c2 (by omega) ?c3 ?c4 ?c5 _ rfl ?_)
      case c2 => simp [ntC, Value.oneCell']
      case c3 => unfold maxLen; omega
      case c4 => omega
      case c5 => simp; omega
      intro g6 cap6 w6 hown3 hgrow hat hlt6
      have HP := Lib.hid (OutNt.push HV1.out hb2 hw2 (ext1 _ _) hown3 hgrow (by simpa only [World.size_alloc] using hat))
      have HE : Hid ((out ++ [(⟨x, B2, d2⟩ : NtR)]).map NtR.x = (rs.take (k + 1)).map NtR.x) := by
        unfold Hid
        rw [HX.out, List.map_append, HO.out]
        rfl
      clear hown3 hgrow hat hlt6
      go_wp2
      go_roundw
      case rel => exact ⟨k + 1, _, _, by omega, by go_num, by simp; omega, HE.out, HP.out⟩
      case measure => simp [intOf]; omega
    · have HE : Hid (out.map NtR.x = rs.map NtR.x) := by
        have h := HO.out
        rwa [List.take_of_length_le (by omega)] at h
      go_wp2
      go_ret
      exact ⟨out, own, _, rfl, HE.out, HV.out⟩
end Go.Proofs.YtpnabggpdgjbmaaGreatDoor
namespace Go.Proofs.YtpnabggpdgjbmaaGreatDoor
open Go.RowKit Go.Sort
section
variable {P : Program} {w : World} {ops : Array Oper} {o : Oper} {a : Act} {K : Act → World → Prop} {Q : Exit → Act → World → Prop} {E : Prop}
theorem copy_grown {g : Nat} {cs : Array Value} : w.grownBy (w.setRow g cs) (some g) := ⟨rfl, rfl, rfl, by simp, fun k _ hk => setRow_other w g k _ (fun e => hk (by simp [e]))⟩
theorem list_copy_row {rest : List Oper} (hgd : o.guard = none) (d x : Operand) (dT sT : TypeId) (hop : o.op = Op.call { callee := Callee.builtin Builtin.copy, args := #[d, x], argTypes := #[dT, sT] })
    (elem : TypeId) (sz : Nat) (hu : P.underlying dT = some (.slice elem)) (hs : (P.info? elem).map (·.size) = some sz)
    (g off dLen dCap : Nat) (ad : Addr) (sLen sCap : Nat) (hd : a.eval d = .slice (some ⟨g, off, none⟩) dLen dCap) (hx : a.eval x = .slice (some ad) sLen sCap)
    (cur : List Value) (t : TypeId) (hg : w.heap[g]? = some (.cells cur.toArray t (0, 0))) (cs : List Value) (hn : cs.length = Nat.min sLen dLen * sz)
    (hsrc : ∀ j v, cs[j]? = some v → w.cell? (ad.add j) = some v) (hfit : off + cs.length ≤ cur.length) (h1 : ∀ v ∈ cs, v.oneCell' = true)
    (h : ∀ w', Hid (w'.heap[g]? = some (.cells (splice cur off cs).toArray t (0, 0))) → w.grownBy w' (some g) → wpList P ops Q rest (a.put o.dst (goInt (Nat.min sLen dLen))) w') : wpList P ops Q (o :: rest) a w :=
  list_copy_eq hgd d x dT sT hop _ _ hd hx (run_copyS w dT sT o.type elem sz g off dLen dCap ad sLen sCap cur.toArray t cs hu hs hg hn hsrc (by simpa using hfit) h1) (h _ (show _ = _ by simpa using setRow_heap w g cur.toArray _ t _ hg) copy_grown)
theorem step_copy_row (hgd : o.guard = none) (d x : Operand) (dT sT : TypeId) (hop : o.op = Op.call { callee := Callee.builtin Builtin.copy, args := #[d, x], argTypes := #[dT, sT] })
    (elem : TypeId) (sz : Nat) (hu : P.underlying dT = some (.slice elem)) (hs : (P.info? elem).map (·.size) = some sz)
    (g off dLen dCap : Nat) (ad : Addr) (sLen sCap : Nat) (hd : a.eval d = .slice (some ⟨g, off, none⟩) dLen dCap) (hx : a.eval x = .slice (some ad) sLen sCap)
    (cur : List Value) (t : TypeId) (hg : w.heap[g]? = some (.cells cur.toArray t (0, 0))) (cs : List Value) (hn : cs.length = Nat.min sLen dLen * sz)
    (hsrc : ∀ j v, cs[j]? = some v → w.cell? (ad.add j) = some v) (hfit : off + cs.length ≤ cur.length) (h1 : ∀ v ∈ cs, v.oneCell' = true)
    (h : ∀ w', Hid (w'.heap[g]? = some (.cells (splice cur off cs).toArray t (0, 0))) → w.grownBy w' (some g) → K (a.put o.dst (goInt (Nat.min sLen dLen))) w') :
    if Region.wanted o (yielded ops a.tmps) = true then Oper.wp P o a w K Q else E :=
  step_copy_eq hgd d x dT sT hop _ _ hd hx (run_copyS w dT sT o.type elem sz g off dLen dCap ad sLen sCap cur.toArray t cs hu hs hg hn hsrc (by simpa using hfit) h1) (h _ (show _ = _ by simpa using setRow_heap w g cur.toArray _ t _ hg) copy_grown)
/-- An append of a made slice to a row without room. -/
theorem list_append_make {rest : List Oper} (hgd : o.guard = none) (s x : Operand) (t tn : TypeId)
    (ho : o.op = .call { callee := .builtin .append, args := #[s, x], argTypes := #[t, tn] }) (e : TypeId) (i : TypeInfo) (z : Value) (size bytes : Nat) (ht : P.underlying t = some (.slice e)) (htn : P.underlying tn = some (.int .i64)) (hi : P.info? e = some i) (hz : i.zero = some z)
    (hsize : i.size = size) (hby : i.bytes = bytes) (hzs : z.cells.size = size) (hsz : 0 < size)
    (g n cap : Nat) (zk : Int) (k : Nat) (hs : a.eval s = .slice (some ⟨g, 0, none⟩) n cap) (hx : a.eval x = .int .i64 zk) (hk : zk = (k : Int)) (olds : List Value) (hol : olds.length = n * size) (hold : ∀ j v, olds[j]? = some v → w.cell? ((⟨g, 0, none⟩ : Addr).add j) = some v)
    (h0 : 0 < k) (hg : cap < n + k) (h63 : n + k ≤ maxLen) (hbytes : (n + k) * bytes ≤ 140737488355328)
    (h : ∀ w' gcap (cur : List Value), Hid (w'.heap[w.heap.size]? = some (.cells cur.toArray e (0, 0))) → Hid (cur.length = gcap * size ∧ cur.take (n * size) = olds ∧ n + k ≤ gcap ∧ gcap ≤ maxLen) → w.grownBy w' none → wpList P ops Q rest (a.put o.dst (.slice (some ⟨w.heap.size, 0, none⟩) (n + k) gcap)) w') :
    wpList P ops Q (o :: rest) a w := by
  subst hsize
  subst hby
  subst hk
  have hm : n + k ≤ 9223372036854775807 := by unfold maxLen at h63; omega
  have hf : (Builtin.firstCells i.size n (.slice (some ⟨g, 0, none⟩) n cap)).run P w.drew = .ok olds.toArray w.drew := run_firstCells_some w.drew i.size n ⟨g, 0, none⟩ n cap olds hol hold
  have hkb : k * i.bytes ≤ (n + k) * i.bytes := Nat.mul_le_mul_right _ (by omega)
  have hr := Lib.run_append_grow_zeros w t tn o.type e i z .i64 .i64 ht htn hi hz (some ⟨g, 0, none⟩) n cap olds hf k h0 hsz hg (by omega) (by omega) (growslice_fits hg hbytes)
  have hge := grownCap_ge w (n + k) cap e
  have hcm := grownCap_le_maxLen w (n + k) cap e h63
  refine Lib.wpList_append_run w hgd s x t tn ho _ _ hs hx _ _ hr (h _ _ (olds ++ (Builtin.zeroCells z.cells k).toList ++ (Builtin.zeroCells z.cells (grownCap w (n + k) cap e - (n + k))).toList) ?_ ⟨?_, ?_, hge, hcm⟩ ⟨rfl, rfl, rfl, by simp, fun j hj hne => (World.grownBy_alloc w.drew _ none).block j hj hne⟩)
  · show _ = _
    have := heap_alloc_new w.drew (.cells (olds.toArray ++ Builtin.zeroCells z.cells k ++ Builtin.zeroCells z.cells (grownCap w (n + k) cap e - (n + k))) e)
    rw [show w.drew.heap.size = w.heap.size from rfl] at this
    rw [this]
    congr 2
    apply Array.ext'
    simp
  · simp only [List.length_append, Array.length_toList, size_zeroCells, hzs, hol]
    rw [← Nat.add_mul, ← Nat.add_mul]
    congr 1
    omega
  · rw [List.append_assoc, ← hol]
    exact List.take_left
end
theorem grownBy_trans2 {a b c : World} {r s : Option Nat} (h1 : a.grownBy b r) (h2 : b.grownBy c s) (hs : ∀ k, s = some k → r = some k ∨ a.heap.size ≤ k) : a.grownBy c r :=
  ⟨h2.os.trans h1.os, h2.tape.trans h1.tape, h2.output.trans h1.output, Nat.le_trans h1.size h2.size, fun k hk hne => (h2.block k (Nat.lt_of_lt_of_le hk h1.size) (fun e => by
    rcases hs k e.symm with e2 | e2
    · exact hne e2.symm
    · omega)).trans (h1.block k hk hne)⟩
theorem grownBy_none {a b : World} (h : a.grownBy b none) (r : Option Nat) : a.grownBy b r := ⟨h.os, h.tape, h.output, h.size, fun k hk _ => h.block k hk (by simp)⟩
/-- One more note at place i: its terms are new; the row is the old one or a new one. -/
theorem OutNt.insert {w : World} {base : Nat} {rs : List NtR} {own : Nat → Nat} {v : Value} {W W2 W2a w3 : World} (h : OutNt w base rs own v W) {x : Nt} {T : Option Addr} {c i : Nat} (hi : i ≤ rs.length) (hb2 : Below W.heap.size W W2) (hT : WrT W2 W.heap.size T c x.terms) (hb2a : Below W2.heap.size W2 W2a)
    {g cap : Nat} (hown3 : w3.ownsRow base 31 8 (.slice (some ⟨g, 0, none⟩) (rs.length + 1) cap) (rs.length + 1) (flatR (rs.take i ++ [⟨x, T, c⟩] ++ rs.drop i))) (hg : W2a.grownBy w3 v.ownBlock) (hat : v.ownBlock = some g ∨ g = W2a.heap.size) :
    OutNt w base (rs.take i ++ [⟨x, T, c⟩] ++ rs.drop i) (fun t => if W2.heap.size ≤ t then 0 else if W.heap.size ≤ t then i + 1 else if own t ≤ i then own t else own t + 1) (.slice (some ⟨g, 0, none⟩) (rs.length + 1) cap) w3 := by
  have hV := fun k hk => h.row.lt k hk
  have s1 := hb2.size
  have s2 := hb2a.size
  have s3 := hg.size
  have hl : (rs.take i ++ [(⟨x, T, c⟩ : NtR)] ++ rs.drop i).length = rs.length + 1 := by simp only [List.length_append, List.length_take, List.length_drop, List.length_cons, List.length_nil]; omega
  have old : ∀ (j : Nat) (r : NtR), rs[j]? = some r → WrT w3 base r.T r.c r.x.terms ∧ ∀ t o m, r.T = some ⟨t, o, m⟩ → 0 < r.x.terms.length → own t = j + 1 ∧ t < W.heap.size := fun j r hr => by
    obtain ⟨t1, t2⟩ := h.ts j r hr
    refine ⟨((t1.below hb2).below hb2a).grown hg fun t o m e hn e2 => ?_, fun t o m e hn => t2 t o m e hn⟩
    have h1 := (t2 t o m e hn).1
    have h2 := h.own0 t e2.symm
    omega
  refine ⟨by rw [hl]; exact hown3, fun j r hr => ?_, fun g' e => ?_, below_grown (ext_trans (ext_trans h.bel hb2) hb2a) (own_below (own_below h.row hb2) hb2a) h.low hg, h.low, by have := h.hi; omega⟩
  · rcases Nat.lt_trichotomy j i with hj | hj | hj
    · rw [List.append_assoc, List.getElem?_append_left (by rw [List.length_take]; omega), List.getElem?_take, if_pos hj] at hr
      obtain ⟨o1, o2⟩ := old j r hr
      refine ⟨o1, fun t o m e hn => ?_⟩
      obtain ⟨q1, q2⟩ := o2 t o m e hn
      refine ⟨?_, by omega⟩
      show (if _ then _ else _) = _
      rw [if_neg (by omega), if_neg (by omega), if_pos (by omega)]
      exact q1
    · subst hj
      rw [List.append_assoc, List.getElem?_append_right (by rw [List.length_take]; omega), List.length_take, show j - min j rs.length = 0 by omega] at hr
      simp at hr
      subst hr
      have hlo : ∀ t o m, T = some ⟨t, o, m⟩ → 0 < x.terms.length → W.heap.size ≤ t ∧ t < W2.heap.size := fun t o m e hn => by
        obtain ⟨tb, tq, e2, q1, q2, _⟩ := hT.1 hn
        rw [e] at e2
        injection e2 with e2
        injection e2 with e2
        subst e2
        exact ⟨q1, q2⟩
      refine ⟨(((hT.below hb2a).grown hg fun t o m e hn e2 => ?_).more h.hi), fun t o m e hn => ?_⟩
      · have := (hV t e2.symm).2
        have := (hlo t o m e hn).1
        omega
      · obtain ⟨q1, q2⟩ := hlo t o m e hn
        refine ⟨?_, by omega⟩
        show (if _ then _ else _) = _
        rw [if_neg (by omega), if_pos q1]
    · rw [List.getElem?_append_right (by simp only [List.length_append, List.length_take, List.length_cons, List.length_nil]; omega), List.getElem?_drop] at hr
      have hr' : rs[j - 1]? = some r := by
        rw [← hr]
        congr 1
        simp only [List.length_append, List.length_take, List.length_cons, List.length_nil]
        omega
      obtain ⟨o1, o2⟩ := old (j - 1) r hr'
      refine ⟨o1, fun t o m e hn => ?_⟩
      obtain ⟨q1, q2⟩ := o2 t o m e hn
      refine ⟨?_, by omega⟩
      show (if _ then _ else _) = _
      rw [if_neg (by omega), if_neg (by omega), if_neg (by omega)]
      omega
  · have eg : g = g' := by
      have : some g = some g' := e
      injection this
    subst eg
    show (if _ then _ else _) = _
    rcases hat with e2 | e2
    · have := (hV g e2).2
      have h0 := h.own0 g e2
      rw [if_neg (by omega), if_neg (by omega), if_pos (by omega)]
      exact h0
    · rw [if_pos (by omega)]
theorem splice_room {α : Type} (P D R C : List α) (hC : C.length = 8) (hR : 8 ≤ R.length) : splice (splice (P ++ D ++ R) (P.length + 8) D) P.length C = P ++ C ++ D ++ R.drop 8 := by
  have e1 : splice (P ++ D ++ R) (P.length + 8) D = P ++ ((D ++ R).take 8 ++ (D ++ R.drop 8)) := by
    unfold splice
    rw [List.append_assoc, List.take_append, List.take_of_length_le (by omega), show P.length + 8 - P.length = 8 by omega, List.append_assoc, List.drop_append, List.drop_eq_nil_of_le (by omega), List.nil_append,
      show P.length + 8 + D.length - P.length = D.length + 8 by omega, ← List.drop_drop, List.drop_left]
  rw [e1]
  rw [splice_mid, hC, List.drop_left' (by rw [List.length_take, List.length_append]; omega)]
  simp only [List.append_assoc]
theorem splice_grow {α : Type} (P D L C : List α) (hC : C.length = 8) (hP : L.take P.length = P) : (splice (splice L P.length C) (P.length + 8) D).take (P.length + 8 + D.length) = P ++ C ++ D := by
  have e1 : splice L P.length C = (P ++ C) ++ L.drop (P.length + C.length) := by
    unfold splice
    rw [hP, List.append_assoc]
  have e2 : P.length + 8 = (P ++ C).length := by rw [List.length_append, hC]
  rw [e1, e2, splice_mid, ← List.length_append, List.take_left]
end Go.Proofs.YtpnabggpdgjbmaaGreatDoor
