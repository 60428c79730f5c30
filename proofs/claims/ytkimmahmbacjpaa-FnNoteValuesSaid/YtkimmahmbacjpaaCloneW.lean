/- Copies of slices of integers: both walks. No condition but those that each theorem names. -/
import Derived.Test.YtkimmahmbacjpaaConcatW
import Derived.Test.YtkimmahmbacjpaaOwnW
namespace Go.Proofs.Ytkimmahmbacjpaa
open Go.RowKit Go.Sort

theorem own_fullC {w : World} {base : Nat} {v : Value} {xs : List Int} (h : w.ownsRow base 2 1 v xs.length (xs.map (Value.int .i64))) : ∃ A c, v = .slice A xs.length c ∧ Wr (Value.int .i64) w base A xs ∧ xs.length ≤ c ∧ c ≤ maxLen := by
  obtain ⟨_, A, c, e, g⟩ := Wr.of_own h
  refine ⟨A, c, e, g, ?_⟩
  rcases h.2 with ⟨e2, h0⟩ | ⟨g', cap, cur, e2, _, _, hc, hm, _⟩
  · rw [e] at e2
    injection e2 with _ _ e3
    rw [e3, h0]
    exact ⟨Nat.le_refl _, Nat.zero_le _⟩
  · rw [e] at e2
    injection e2 with _ _ e3
    rw [e3]
    exact ⟨hc, hm⟩
/-- What a call returns that makes a slice with room. -/
def RetCap (w : World) (xs : List Int) (e : Ending) (w' : World) : Prop :=
  ∃ A c, e = .returned (.slice A xs.length c) ∧ Wr (Value.int .i64) w' w.heap.size A xs ∧ (xs.length ≤ c ∧ c ≤ maxLen) ∧ Below w.heap.size w w'
theorem nil_yes (n c : Nat) (w : World) : (binOp BinOp.eql 32 (.slice none n c) (.slice none 0 0)).run Try.prog w = .ok (.bool true) w := by kernel_rfl
theorem nil_no (a : Addr) (n c : Nat) (w : World) : (binOp BinOp.eql 32 (.slice (some a) n c) (.slice none 0 0)).run Try.prog w = .ok (.bool false) w := by kernel_rfl
set_option maxRecDepth 100000 in
theorem l00Own_any (A : Option Addr) (c : Nat) (xs : List Int) (w : World) (hx : Rd (Value.int .i64) w w.heap.size A xs) (hm : xs.length ≤ 1048576) :
    Calls Try.prog 80 #[.slice A xs.length c] w (RetCap w xs) := by
  obtain ⟨i0, hi, hz0, hz1, hz2⟩ := info_parts info64
  have HI := Lib.hid hi
  have hown : Hid ((w.alloc (.cells #[] 2)).ownsRow w.heap.size 2 1 (.slice (some ⟨w.heap.size, 0, none⟩) 0 0) 0 []) := by
    have h := World.ownsRow_lit (base := w.heap.size) (e := 2) (size := 1) w #[] 0 (by simp) (by simp) rfl
    unfold Hid
    simpa using h
  clear hi
  rcases Nat.eq_zero_or_pos xs.length with h0 | h0
  · obtain rfl : xs = [] := List.eq_nil_of_length_eq_zero h0
    clear h0 hx hm
    cases A with
    | none =>
      have hq := nil_yes 0 c w
      have hr := run_append_empty (some ⟨w.heap.size, 0, none⟩) 0 0 none c 32 (w.alloc (.cells #[] 2)) (Nat.le_refl _)
      go_enter Try.func80, Try.ntmps80
      go_wp2
      go_ret
      first
        | exact ⟨none, 0, rfl, fun h => absurd h (by simp), ⟨Nat.le_refl _, Nat.zero_le _⟩, Below.refl _ _⟩
        | exact ⟨_, 0, rfl, fun h => absurd h (by simp), ⟨Nat.le_refl _, Nat.zero_le _⟩, ext1 _ _⟩
    | some a =>
      have hq := nil_no a 0 c w
      have hr := run_append_empty (some ⟨w.heap.size, 0, none⟩) 0 0 (some a) c 32 (w.alloc (.cells #[] 2)) (Nat.le_refl _)
      go_enter Try.func80, Try.ntmps80
      go_wp2
      go_ret
      exact ⟨_, 0, rfl, fun h => absurd h (by simp), ⟨Nat.le_refl _, Nat.zero_le _⟩, ext1 _ _⟩
  · obtain ⟨b, off, rfl, hb, hc⟩ := hx h0
    have HC := Lib.hid hc
    have hq := nil_no ⟨b, off, none⟩ xs.length c w
    clear hc h0
    go_enter Try.func80, Try.ntmps80
    go_wp2_with (at_builtin; refine wpList_append_own _ rfl _ _ 32 rfl w.heap.size 2 i0 (.int .i64 0) 1 8 Try.underlying32 HI.out hz0 hz1 hz2 rfl (by decide) _ _ _ rfl hown.out ⟨b, off, none⟩ xs.length c (xs.map (Value.int .i64)) rfl (by simp) ?c1 ?c2 ?c3 ?c4 ?c5 ?_)
    case c1 =>
      intro j u hu
      rw [List.getElem?_map] at hu
      cases hx : xs[j]? with
      | none => rw [hx] at hu; cases hu
      | some x =>
        rw [hx] at hu
        obtain rfl := Option.some.inj hu
        have hcx := HC.out j x hx
        have ea : (⟨b, off, none⟩ : Addr).add j = ⟨b, off + j, none⟩ := by simp [Addr.add]
        rw [ea]
        exact (World.cell?_alloc_lt _ _ _ (block_lt_of_cell hcx)).trans hcx
    case c2 => intro u hu; obtain ⟨x, _, rfl⟩ := List.mem_map.1 hu; rfl
    case c3 => unfold maxLen; omega
    case c4 => omega
    case c5 => simp
    intro v' w3 hown3 hgrow hnil
    have hb := below_grown (ext1 w (.cells #[] 2)) hown.out (Nat.le_refl _) hgrow
    have hown4 : w3.ownsRow w.heap.size 2 1 v' xs.length (xs.map (Value.int .i64)) := by simpa using hown3
    obtain ⟨A3, c3, rfl, hw3, h3⟩ := own_fullC hown4
    have HH := Lib.hid (And.intro hw3 h3)
    clear hown3 hgrow hnil hown4 hw3 h3
    go_wp2
    go_ret
    exact ⟨_, _, rfl, HH.out.1, HH.out.2, hb⟩
set_option maxRecDepth 100000 in
theorem clone_any (A : Option Addr) (c : Nat) (xs : List Int) (w : World) (hx : Rd (Value.int .i64) w w.heap.size A xs) (hm : xs.length ≤ 1048576) :
    Calls Try.prog 102 #[.slice A xs.length c] w (RetCap w xs) := by
  obtain ⟨i0, hi, hz0, hz1, hz2⟩ := info_parts info64
  have HI := Lib.hid hi
  have hown : Hid ((w.alloc (.cells #[] 2)).ownsRow w.heap.size 2 1 (.slice (some ⟨w.heap.size, 0, none⟩) 0 0) 0 []) := by
    have h := World.ownsRow_lit (base := w.heap.size) (e := 2) (size := 1) w #[] 0 (by simp) (by simp) rfl
    unfold Hid
    simpa using h
  clear hi
  rcases Nat.eq_zero_or_pos xs.length with h0 | h0
  · obtain rfl : xs = [] := List.eq_nil_of_length_eq_zero h0
    clear h0 hx hm
    cases A with
    | none =>
      have hq := nil_yes 0 c w
      have hr := run_append_empty (some ⟨w.heap.size, 0, none⟩) 0 0 none c 32 (w.alloc (.cells #[] 2)) (Nat.le_refl _)
      go_enter Try.func102, Try.ntmps102
      go_wp2
      go_ret
      first
        | exact ⟨none, 0, rfl, fun h => absurd h (by simp), ⟨Nat.le_refl _, Nat.zero_le _⟩, Below.refl _ _⟩
        | exact ⟨_, 0, rfl, fun h => absurd h (by simp), ⟨Nat.le_refl _, Nat.zero_le _⟩, ext1 _ _⟩
    | some a =>
      have hq := nil_no a 0 c w
      have hr := run_append_empty (some ⟨w.heap.size, 0, none⟩) 0 0 (some a) c 32 (w.alloc (.cells #[] 2)) (Nat.le_refl _)
      go_enter Try.func102, Try.ntmps102
      go_wp2
      go_ret
      exact ⟨_, 0, rfl, fun h => absurd h (by simp), ⟨Nat.le_refl _, Nat.zero_le _⟩, ext1 _ _⟩
  · obtain ⟨b, off, rfl, hb, hc⟩ := hx h0
    have HC := Lib.hid hc
    have hq := nil_no ⟨b, off, none⟩ xs.length c w
    clear hc h0
    go_enter Try.func102, Try.ntmps102
    go_wp2_with (at_builtin; refine wpList_append_own _ rfl _ _ 32 rfl w.heap.size 2 i0 (.int .i64 0) 1 8 Try.underlying32 HI.out hz0 hz1 hz2 rfl (by decide) _ _ _ rfl hown.out ⟨b, off, none⟩ xs.length c (xs.map (Value.int .i64)) rfl (by simp) ?c1 ?c2 ?c3 ?c4 ?c5 ?_)
    case c1 =>
      intro j u hu
      rw [List.getElem?_map] at hu
      cases hx : xs[j]? with
      | none => rw [hx] at hu; cases hu
      | some x =>
        rw [hx] at hu
        obtain rfl := Option.some.inj hu
        have hcx := HC.out j x hx
        have ea : (⟨b, off, none⟩ : Addr).add j = ⟨b, off + j, none⟩ := by simp [Addr.add]
        rw [ea]
        exact (World.cell?_alloc_lt _ _ _ (block_lt_of_cell hcx)).trans hcx
    case c2 => intro u hu; obtain ⟨x, _, rfl⟩ := List.mem_map.1 hu; rfl
    case c3 => unfold maxLen; omega
    case c4 => omega
    case c5 => simp
    intro v' w3 hown3 hgrow hnil
    have hb := below_grown (ext1 w (.cells #[] 2)) hown.out (Nat.le_refl _) hgrow
    have hown4 : w3.ownsRow w.heap.size 2 1 v' xs.length (xs.map (Value.int .i64)) := by simpa using hown3
    obtain ⟨A3, c3, rfl, hw3, h3⟩ := own_fullC hown4
    have HH := Lib.hid (And.intro hw3 h3)
    clear hown3 hgrow hnil hown4 hw3 h3
    go_wp2
    go_ret
    exact ⟨_, _, rfl, HH.out.1, HH.out.2, hb⟩
end Go.Proofs.Ytkimmahmbacjpaa
