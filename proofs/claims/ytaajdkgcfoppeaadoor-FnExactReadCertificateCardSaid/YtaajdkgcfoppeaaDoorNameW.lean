/- Names, and terms that are valid: the walks. No condition but those that each theorem names. -/
import Derived.Test.YtaajdkgcfoppeaaDoorSlices
namespace Go.Proofs.YtaajdkgcfoppeaaDoor
open Go.RowKit Go.Sort

/-- A slice of integers with its capacity. -/
def RdC (w : World) (B : Nat) (T : Option Addr) (c : Nat) (xs : List Int) : Prop := Rd (Value.int .i64) w B T xs ∧ xs.length ≤ c ∧ c ≤ maxLen
def smallB (c : Int) : Bool := decide (97 ≤ c) && decide (c ≤ 122)
def digB (c : Int) : Bool := decide (48 ≤ c) && decide (c ≤ 57)
theorem l01Digit_any (c : Int) (w : World) : Calls Tryd.prog 21 #[.int .u8 c] w fun e w' => e = .returned (.bool (digB c)) ∧ w = w' := by
  by_cases h : 48 ≤ c
  · have h1 : decide (48 ≤ c) = true := by simpa using h
    go_enter Tryd.func21, Tryd.ntmps21
    go_wp2
    go_ret
    exact ⟨ret_bool (by unfold digB; rw [h1, Bool.true_and]), rfl⟩
  · have h1 : decide (48 ≤ c) = false := by simpa using h
    go_enter Tryd.func21, Tryd.ntmps21
    go_wp2
    go_ret
    exact ⟨ret_bool (by unfold digB; rw [h1, Bool.false_and]), rfl⟩

/-- A byte that may stand in a name. -/
def nmCh (c : UInt8) : Bool := smallB c.toNat || (digB c.toNat || decide ((c.toNat : Int) = 45))
def nameB (s : ByteArray) : Bool := decide (1 ≤ s.size) && (decide (s.size ≤ 12) && (smallB (s.data.toList.headD 0).toNat && s.data.toList.all nmCh))
theorem bytes_get {s : ByteArray} {k : Nat} (h : k < s.size) : s.data.toList[k]? = some s[k] := by
  have hl : s.data.toList.length = s.size := by cases s; rfl
  rw [List.getElem?_eq_getElem (by omega)]
  rfl
theorem bytes_head {s : ByteArray} (h : 0 < s.size) : s.data.toList.headD 0 = s[0] := by
  have := bytes_get h
  rw [← List.head?_eq_getElem?] at this
  simp [List.headD_eq_head?_getD, this]
theorem all_step {s : ByteArray} {k : Nat} (h : k < s.size) : (s.data.toList.drop k).all nmCh = (nmCh s[k] && (s.data.toList.drop (k + 1)).all nmCh) := by
  have hl : s.data.toList.length = s.size := by cases s; rfl
  have hg := bytes_get h
  obtain ⟨h1, h2⟩ := List.getElem?_eq_some_iff.1 hg
  rw [List.drop_eq_getElem_cons h1, List.all_cons, h2]
theorem all_end {s : ByteArray} {k : Nat} (h : ¬ k < s.size) : (s.data.toList.drop k).all nmCh = true := by
  have hl : s.data.toList.length = s.size := by cases s; rfl
  rw [List.drop_eq_nil_of_le (by omega)]
  rfl


/-- Terms that are valid: each is in its range. -/
def tmB (i : Nat) (x : Int) : Bool := inR x (if i = 0 then -1000000000 else 1) 1000000000
def termsAll : Nat → List Int → Bool
  | _, [] => true
  | i, x :: xs => tmB i x && termsAll (i + 1) xs
def termsB (ts : List Int) : Bool := termsAll 0 ts && inR ts.length 1 60
theorem termsAll_step {xs : List Int} {k : Nat} {x : Int} (h : xs[k]? = some x) : termsAll k (xs.drop k) = (tmB k x && termsAll (k + 1) (xs.drop (k + 1))) := by
  obtain ⟨h1, h2⟩ := List.getElem?_eq_some_iff.1 h
  rw [List.drop_eq_getElem_cons h1, h2]; rfl
theorem termsAll_end {xs : List Int} {k : Nat} (h : ¬ k < xs.length) : termsAll k (xs.drop k) = true := by
  rw [List.drop_eq_nil_of_le (by omega)]; rfl

/-- The index of the first element that p takes; -1 if there is none. -/
def ixP (p : Int → Bool) : List Int → Nat → Int
  | [], _ => -1
  | x :: xs, i => if p x = true then i else ixP p xs (i + 1)
theorem ixP_all (p : Int → Bool) : ∀ (xs : List Int) (i : Nat), decide (0 ≤ ixP p xs i) = xs.any p
  | [], _ => rfl
  | x :: xs, i => by
    unfold ixP
    cases h : p x
    · rw [if_neg (by simp), ixP_all p xs (i + 1), List.any_cons, h, Bool.false_or]
    · rw [if_pos rfl, List.any_cons, h, Bool.true_or, decide_eq_true (by omega)]
theorem ixP_step {p : Int → Bool} {xs : List Int} {k : Nat} {x : Int} (h : xs[k]? = some x) : ixP p (xs.drop k) k = if p x = true then (k : Int) else ixP p (xs.drop (k + 1)) (k + 1) := by
  obtain ⟨h1, h2⟩ := List.getElem?_eq_some_iff.1 h
  rw [List.drop_eq_getElem_cons h1, h2]; rfl
theorem ixP_end {p : Int → Bool} {xs : List Int} {k : Nat} (h : ¬ k < xs.length) : ixP p (xs.drop k) k = -1 := by
  rw [List.drop_eq_nil_of_le (by omega)]; rfl

set_option maxHeartbeats 1000000 in
theorem indexFuncBC_any (p : Int → Bool) (HF : Hid (∀ x W, Calls Tryd.prog 36 #[.int .i64 x] W fun e w' => e = .returned (.bool (p x)) ∧ W = w')) (A : Option Addr) (c : Nat) (xs : List Int) (w : World) (hx : Rd (Value.int .i64) w w.heap.size A xs) (hm : xs.length ≤ maxLen) :
    Calls Tryd.prog 46 #[.slice A xs.length c, .func (Fn.func 36) #[] #[]] w fun e w' => e = .returned (.int .i64 (ixP p xs 0)) ∧ w = w' := by
  unfold maxLen at hm
  obtain ⟨R, hR⟩ : ∃ R, ixP p xs 0 = R := ⟨_, rfl⟩
  rw [hR]
  have HR : Hid (ixP p (xs.drop 0) 0 = R) := hR
  clear hR
  go_enter Tryd.func46, Tryd.ntmps46
  go_wp2_with fail
  go_loop [8] (fun t => ∃ k : Nat, k ≤ xs.length ∧ t = .int .i64 k ∧ Hid (ixP p (xs.drop k) k = R)) (fun t => xs.length - (intOf t).toNat)
  case atStart => exact ⟨0, by omega, rfl, HR.out⟩
  case round =>
    obtain ⟨k, hk, rfl, HK⟩ := hrel
    clear HR
    by_cases hlt : k < xs.length
    · obtain ⟨b, off, rfl, hb, hc⟩ := hx (by omega)
      obtain ⟨x, hxk⟩ : ∃ x, xs[k]? = some x := ⟨_, List.getElem?_eq_getElem hlt⟩
      have c1 := hc k x hxk
      have HS := Lib.hid (ixP_step (p := p) hxk)
      clear hc hxk
      have i0 : (0 : Int) ≤ (k : Int) := by omega
      have i1 : (k : Int) < (xs.length : Int) := by omega
      have HC := Lib.hid (HF.out x)
      cases hp : p x
      · have HE : Hid (ixP p (xs.drop (k + 1)) (k + 1) = R) := by
          have h := HK.out
          rw [HS.out, hp, if_neg (by simp)] at h
          exact h
        rw [hp] at HC
        clear hp
        go_wp2_with fail
        refine (HC.out _).mono ?_
        rintro e w' ⟨rfl, rfl⟩
        go_wp2
        go_round
        case rel => exact ⟨k + 1, by omega, by go_num, HE.out⟩
        case measure => simp [intOf]; omega
      · have HE : Hid ((k : Int) = R) := by
          have h := HK.out
          rw [HS.out, hp, if_pos rfl] at h
          exact h
        rw [hp] at HC
        clear hp
        go_wp2_with fail
        refine (HC.out _).mono ?_
        rintro e w' ⟨rfl, rfl⟩
        go_wp2
        go_ret
        exact ⟨ret_int HE.out, rfl⟩
    · have HE : Hid (-1 = R) := (ixP_end hlt).symm.trans HK.out
      go_wp2
      go_ret
      exact ⟨ret_int HE.out, rfl⟩
theorem containsFuncBC_any (p : Int → Bool) (HF : Hid (∀ x W, Calls Tryd.prog 36 #[.int .i64 x] W fun e w' => e = .returned (.bool (p x)) ∧ W = w')) (A : Option Addr) (c : Nat) (xs : List Int) (w : World) (hx : Rd (Value.int .i64) w w.heap.size A xs) (hm : xs.length ≤ maxLen) :
    Calls Tryd.prog 35 #[.slice A xs.length c, .func (Fn.func 36) #[] #[]] w fun e w' => e = .returned (.bool (xs.any p)) ∧ w = w' := by
  have HC : Hid (∀ W, w = W → Calls Tryd.prog 46 #[.slice A xs.length c, .func (Fn.func 36) #[] #[]] W fun e w' => e = .returned (.int .i64 (ixP p xs 0)) ∧ W = w') := fun W hW => by subst hW; exact indexFuncBC_any p HF A c xs w hx hm
  rw [← ixP_all p xs 0]
  generalize ixP p xs 0 = z at *
  go_enter Tryd.func35, Tryd.ntmps35
  go_wp2_with fail
  refine (HC.out _ rfl).mono ?_
  rintro e w' ⟨rfl, rfl⟩
  go_wp2
  go_ret
  exact ⟨rfl, rfl⟩
end Go.Proofs.YtaajdkgcfoppeaaDoor
