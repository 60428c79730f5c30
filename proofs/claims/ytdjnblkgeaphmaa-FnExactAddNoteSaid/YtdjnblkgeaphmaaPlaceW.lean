/- The place of a name in a list of notes: the program's search. No condition but those that each theorem names. -/
import Derived.Test.YtdjnblkgeaphmaaPlaceP
import Derived.Test.YtdjnblkgeaphmaaShelf
namespace Go.Proofs.Ytdjnblkgeaphmaa
open Go.RowKit Go.Sort

def cmpS (a b : ByteArray) : Int := Lib.compareBytes a.data.toList b.data.toList
theorem cmpL_lt : ∀ a b : List UInt8, (Lib.compareBytes a b < 0 ↔ Op.bytesLess a b = true) ∧ (Lib.compareBytes a b = 0 ↔ a = b)
  | [], [] => by simp [Lib.compareBytes, Op.bytesLess]
  | [], _ :: _ => by simp [Lib.compareBytes, Op.bytesLess]
  | _ :: _, [] => by simp [Lib.compareBytes, Op.bytesLess]
  | a :: l, b :: m => by
    obtain ⟨i1, i2⟩ := cmpL_lt l m
    unfold Lib.compareBytes Op.bytesLess
    by_cases h1 : a < b
    · have hne : a ≠ b := fun h => by subst h; exact absurd h1 (UInt8.lt_irrefl _)
      simp [h1, hne]
    · by_cases h2 : b < a
      · have hne : a ≠ b := fun h => by subst h; exact absurd h2 (UInt8.lt_irrefl _)
        simp [h1, h2, hne]
      · have he : a = b := UInt8.le_antisymm (UInt8.not_lt.1 h2) (UInt8.not_lt.1 h1)
        subst he
        simp [h1, i1, i2]
theorem cmpS_lt {a b : ByteArray} : cmpS a b < 0 ↔ ltB a b = true := by
  rw [cmpS, ltB, ByteArray.toList_eq, ByteArray.toList_eq]; exact (cmpL_lt _ _).1
theorem cmpS_eq {a b : ByteArray} : cmpS a b = 0 ↔ a = b := by
  rw [cmpS]
  exact ⟨fun h => ByteArray.ext (Array.ext' ((cmpL_lt _ _).2.1 h)), fun h => by rw [h]; exact (cmpL_lt _ _).2.2 rfl⟩
/-- A list that a name parts: below the place all less, from it on none. -/
structure Spl (s : ByteArray) (xs : List Nt) (i j : Nat) : Prop where
  lo : ∀ t x, t < i → xs[t]? = some x → ltB x.name s = true
  hi : ∀ t x, j ≤ t → xs[t]? = some x → ltB x.name s = false
def Mono (s : ByteArray) (xs : List Nt) : Prop := ∀ (p q : Nat) (x y : Nt), p ≤ q → xs[p]? = some x → xs[q]? = some y → ltB y.name s = true → ltB x.name s = true
theorem Spl.up {s : ByteArray} {xs : List Nt} {i j h : Nat} {x : Nt} (S : Spl s xs i j) (M : Mono s xs) (hx : xs[h]? = some x) (hl : ltB x.name s = true) : Spl s xs (h + 1) j :=
  ⟨fun t y ht hy => M t h y x (by omega) hy hx hl, S.hi⟩
theorem Spl.down {s : ByteArray} {xs : List Nt} {i j h : Nat} {x : Nt} (S : Spl s xs i j) (M : Mono s xs) (hx : xs[h]? = some x) (hl : ltB x.name s = false) : Spl s xs i h :=
  ⟨S.lo, fun t y ht hy => by
    cases hb : ltB y.name s
    · rfl
    · rw [M h t x y ht hx hy hb] at hl; exact absurd hl (by simp)⟩
def fdB (s : ByteArray) (xs : List Nt) (k : Nat) : Bool := match xs[k]? with
  | none => false
  | some x => decide (cmpS x.name s = 0)
theorem placeF_any (x : Nt) (T : Option Addr) (c : Nat) (s : ByteArray) (w : World) :
    Calls Try.prog 155 #[ntV x.name x.kind x.num x.den T x.terms.length c x.sp x.sd x.sq, .string s] w fun e w' => e = .returned (.int .i64 (cmpS x.name s)) ∧ Below w.heap.size w w' := by
  have HC : Hid (∀ W : World, Calls Try.prog 156 #[.string x.name, .string s] W fun e w' => e = .returned (.int .i64 (cmpS x.name s)) ∧ W = w') := fun W => (Try.strings_Compare x.name s W).mono fun e w' h => ⟨h.1, h.2.symm⟩
  generalize cmpS x.name s = R at *
  unfold ntV
  go_enter Try.func155, Try.ntmps155
  go_wp2_with fail
  refine (HC.out _).mono ?_
  rintro e w' ⟨rfl, rfl⟩
  go_wp2
  go_ret
  exact ⟨rfl, ext1 _ _⟩
set_option maxRecDepth 100000 in
set_option maxHeartbeats 2000000 in
theorem searchNt_any (A : Option Addr) (c : Nat) (xs : List Nt) (s : ByteArray) (w : World) (hr : RdNt w w.heap.size A xs) (hl : xs.length ≤ 1048576) (hm : Mono s xs) :
    Calls Try.prog 154 #[.slice A xs.length c, .string s, .func (Fn.func 155) #[] #[]] w fun e w' => ∃ k : Nat, k ≤ xs.length ∧ Spl s xs k k ∧ e = .returned (.tuple #[.int .i64 (k : Int), .bool (fdB s xs k)]) ∧ Below w.heap.size w w' := by
  have HM := Lib.hid hm
  clear hm
  have HF := Lib.hid (fun (x : Nt) (T : Option Addr) (c : Nat) (W : World) => placeF_any x T c s W)
  unfold ntV at HF
  go_enter Try.func154, Try.ntmps154
  go_wp2_with fail
  go_loopw [9, 10] (fun u v wr => ∃ i j : Nat, u = .int .i64 (i : Int) ∧ v = .int .i64 (j : Int) ∧ i ≤ j ∧ j ≤ xs.length ∧ Hid (Spl s xs i j) ∧ Below w.heap.size w wr) (fun u v _ => (intOf v).toNat - (intOf u).toNat)
  case atStart => exact ⟨0, xs.length, rfl, rfl, by omega, by omega, ⟨fun t x h => absurd h (by omega), fun t x h1 h2 => by rw [List.getElem?_eq_none (by omega)] at h2; simp at h2⟩, Below.refl _ _⟩
  case round =>
    obtain ⟨i, j, rfl, rfl, hij, hj, HP, hbe⟩ := hrel
    by_cases hlt : i < j
    · obtain ⟨h, hh⟩ : ∃ h, (i + j) / 2 = h := ⟨_, rfl⟩
      have hlt2 : h < xs.length := by omega
      obtain ⟨b, off, rfl, hb, hc⟩ := (hr.next hbe) (by omega)
      obtain ⟨x, hxk⟩ : ∃ x, xs[h]? = some x := ⟨_, List.getElem?_eq_getElem hlt2⟩
      obtain ⟨T, ct, cr, cT⟩ := hc h x hxk
      obtain ⟨c0, c1, c2, c3, c4, c5, c6, c7⟩ := cr.nt
      have i0 : (0 : Int) ≤ (h : Int) := by omega
      have i1 : (h : Int) < (xs.length : Int) := by omega
      have HX := Lib.hid hxk
      have hd1 : ((i : Int) + (j : Int)) / 2 = (h : Int) := by omega
      have HC := Lib.hid (fun W => HF.out x T ct W)
      have hsg : cmpS x.name s < 0 ↔ ltB x.name s = true := cmpS_lt
      generalize cmpS x.name s = q at *
      clear hc hxk cr cT HF
      cases hlb : ltB x.name s
      · have HN := Lib.hid (HP.out.down HM.out HX.out hlb)
        have hq : ¬ q < 0 := by rw [hsg, hlb]; simp
        clear hsg hlb
        go_wp2_with fail
        refine (HC.out _).mono ?_
        rintro e w2 ⟨rfl, hb2⟩
        clear c0 c1 c2 c3 c4 c5 c6 c7
        go_wp2
        go_roundw
        case rel => exact ⟨i, h, rfl, rfl, by omega, by omega, HN.out, ext_trans hbe hb2⟩
        case measure => simp [intOf]; omega
      · have HN := Lib.hid (HP.out.up HM.out HX.out hlb)
        have hq : q < 0 := by rw [hsg, hlb]
        clear hsg hlb
        go_wp2_with fail
        refine (HC.out _).mono ?_
        rintro e w2 ⟨rfl, hb2⟩
        clear c0 c1 c2 c3 c4 c5 c6 c7
        go_wp2
        go_roundw
        case rel => exact ⟨h + 1, j, by go_num, rfl, by omega, by omega, HN.out, ext_trans hbe hb2⟩
        case measure => simp [intOf]; omega
    · obtain rfl : i = j := by omega
      by_cases hend : i < xs.length
      · obtain ⟨b, off, rfl, hb, hc⟩ := (hr.next hbe) (by omega)
        obtain ⟨x, hxk⟩ : ∃ x, xs[i]? = some x := ⟨_, List.getElem?_eq_getElem hend⟩
        obtain ⟨T, ct, cr, cT⟩ := hc i x hxk
        obtain ⟨c0, c1, c2, c3, c4, c5, c6, c7⟩ := cr.nt
        have i0 : (0 : Int) ≤ (i : Int) := by omega
        have i1 : (i : Int) < (xs.length : Int) := by omega
        have HE : Hid (fdB s xs i = decide (cmpS x.name s = 0)) := by unfold Hid fdB; rw [hxk]
        have HC := Lib.hid (fun W => HF.out x T ct W)
        generalize cmpS x.name s = q at *
        clear hc hxk cr cT HF
        by_cases hq : q = 0
        · subst hq
          have HE : Hid (fdB s xs i = true) := by unfold Hid; rw [HE.out]; rfl
          go_wp2_with fail
          refine (HC.out _).mono ?_
          rintro e w2 ⟨rfl, hb2⟩
          clear c0 c1 c2 c3 c4 c5 c6 c7
          go_wp2
          go_ret2
          exact ⟨i, by omega, HP.out, by rw [HE.out]; rfl, ext_trans hbe hb2⟩
        · have HE : Hid (fdB s xs i = false) := by unfold Hid; rw [HE.out]; simp [hq]
          have hq0 : (q == 0) = false := by simpa using hq
          go_wp2_with fail
          refine (HC.out _).mono ?_
          rintro e w2 ⟨rfl, hb2⟩
          clear c0 c1 c2 c3 c4 c5 c6 c7
          go_wp2
          go_ret2
          exact ⟨i, by omega, HP.out, by rw [HE.out]; rfl, ext_trans hbe hb2⟩
      · have HE : Hid (fdB s xs i = false) := by unfold Hid fdB; rw [List.getElem?_eq_none (by omega)]
        have i1 : ¬ (i : Int) < (xs.length : Int) := by omega
        go_wp2
        go_ret2
        exact ⟨i, by omega, HP.out, by rw [HE.out]; rfl, hbe⟩
theorem placeOf_any (A : Option Addr) (c : Nat) (xs : List Nt) (s : ByteArray) (w : World) (hr : RdNt w w.heap.size A xs) (hl : xs.length ≤ 1048576) (hm : Mono s xs) :
    Calls Try.prog 79 #[.slice A xs.length c, .string s] w fun e w' => ∃ k : Nat, k ≤ xs.length ∧ Spl s xs k k ∧ e = .returned (.tuple #[.int .i64 (k : Int), .bool (fdB s xs k)]) ∧ Below w.heap.size w w' := by
  have HS := Lib.hid (searchNt_any A c xs s w hr hl hm)
  go_enter Try.func79, Try.ntmps79
  go_wp2_with fail
  refine HS.out.mono ?_
  rintro e w2 ⟨k, hk, hp, rfl, hb2⟩
  go_wp2
  go_ret2
  exact ⟨k, hk, hp, rfl, hb2⟩
end Go.Proofs.Ytdjnblkgeaphmaa
