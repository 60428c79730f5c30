/- A slice of its own, by append. No condition but those that each theorem names. -/
import Derived.Test.YtkimmahmbacjpaaExpW
namespace Go.Proofs.Ytkimmahmbacjpaa
open Go.RowKit Go.Sort

/-- A slice of integers that the call has made, at an address. -/
def OwnS (base : Nat) (xs : List Int) (v : Value) (W : World) : Prop :=
  ∃ g cap, v = .slice (some ⟨g, 0, none⟩) xs.length cap ∧ base ≤ g ∧ g < W.heap.size ∧ (∀ j x, xs[j]? = some x → W.cell? ⟨g, j, none⟩ = some (.int .i64 x)) ∧ (∀ j, W.frozen? ⟨g, j, none⟩ = false) ∧ xs.length ≤ cap ∧ cap ≤ maxLen
theorem ownS_of {W : World} {base : Nat} {xs : List Int} {v : Value} (h : W.ownsRow base 2 1 v xs.length (xs.map (Value.int .i64))) (hn : v ≠ .slice none 0 0) : OwnS base xs v W := by
  obtain ⟨_, ⟨h1, _⟩ | ⟨g, cap, cur, rfl, hb, hg, h1, h2, h3, h4⟩⟩ := h
  · exact absurd h1 hn
  · refine ⟨g, cap, rfl, hb, (Array.getElem?_eq_some_iff.1 hg).1, fun j x hx => ?_, fun j => ?_, h1, h2⟩
    · have hj : j < xs.length := (List.getElem?_eq_some_iff.1 hx).1
      have e : (cur.toList.take (xs.length * 1))[j]? = some (.int .i64 x) := by rw [h4, List.getElem?_map, hx]; rfl
      rw [List.getElem?_take, if_pos (by omega), Array.getElem?_toList] at e
      simp [World.cell?, hg, e]
    · simp [World.frozen?, hg]
theorem ownS_pos {W : World} {base : Nat} {xs : List Int} {v : Value} (h : W.ownsRow base 2 1 v xs.length (xs.map (Value.int .i64))) (h0 : 0 < xs.length) : OwnS base xs v W :=
  ownS_of h fun e => by
    obtain ⟨_, ⟨_, h1⟩ | ⟨g, cap, cur, h1, _⟩⟩ := h
    · omega
    · rw [e] at h1; cases h1
theorem OwnS.more {base B : Nat} {xs : List Int} {v : Value} {W : World} (h : OwnS base xs v W) (hB : B ≤ base) : OwnS B xs v W := by
  obtain ⟨g, cap, rfl, h1, h2⟩ := h
  exact ⟨g, cap, rfl, by omega, h2⟩
theorem OwnS.below {base : Nat} {xs : List Int} {v : Value} {W W' : World} (h : OwnS base xs v W) (hb : Below W.heap.size W W') : OwnS base xs v W' := by
  obtain ⟨g, cap, rfl, h1, h2, h3, h4, h5, h6⟩ := h
  exact ⟨g, cap, rfl, h1, Nat.lt_of_lt_of_le h2 hb.size, fun j x hx => (hb.cell (p := ⟨g, j, none⟩) h2).trans (h3 j x hx), fun j => (hb.frozen (p := ⟨g, j, none⟩) h2).trans (h4 j), h5, h6⟩
theorem OwnS.wr {base : Nat} {xs : List Int} {v : Value} {W : World} (h : OwnS base xs v W) : ∃ A c, v = .slice A xs.length c ∧ Wr (Value.int .i64) W base A xs := by
  obtain ⟨g, cap, rfl, h1, h2, h3, h4, _, _⟩ := h
  exact ⟨_, cap, rfl, fun _ => ⟨g, 0, rfl, h1, h2, fun j x hx => by rw [Nat.zero_add]; exact h3 j x hx, h4⟩⟩

theorem l00Own_at (b off c : Nat) (xs : List Int) (w : World) (hc : ∀ j x, xs[j]? = some x → w.cell? ⟨b, off + j, none⟩ = some (.int .i64 x)) (hm : xs.length ≤ 1048576) :
    Calls Try.prog 80 #[.slice (some ⟨b, off, none⟩) xs.length c] w fun e w' => ∃ v, e = .returned v ∧ w'.ownsRow w.heap.size 2 1 v xs.length (xs.map (Value.int .i64)) ∧ v ≠ .slice none 0 0 ∧ Below w.heap.size w w' := by
  obtain ⟨i0, hi, hz0, hz1, hz2⟩ := info_parts info64
  have HI := Lib.hid hi
  have HC := Lib.hid hc
  clear hi hc
  have hown : Hid ((w.alloc (.cells #[] 2)).ownsRow w.heap.size 2 1 (.slice (some ⟨w.heap.size, 0, none⟩) 0 0) 0 []) := by
    have h := World.ownsRow_lit (base := w.heap.size) (e := 2) (size := 1) w #[] 0 (by simp) (by simp) rfl
    unfold Hid
    simpa using h
  go_enter Try.func80, Try.ntmps80
  go_wp2_with (at_builtin; refine wpList_append_own _ rfl _ _ 32 rfl w.heap.size 2 i0 (.int .i64 0) 1 8 Try.underlying32 HI.out hz0 hz1 hz2 rfl (by decide) _ _ _ rfl hown.out ⟨b, off, none⟩ xs.length c (xs.map (Value.int .i64)) rfl (by simp) ?c1 ?c2 ?c3 ?c4 ?c5 ?_)
  case c1 =>
    intro j u hu
    rw [List.getElem?_map] at hu
    cases hx : xs[j]? with
    | none => rw [hx] at hu; cases hu
    | some x =>
      rw [hx] at hu
      obtain rfl := Option.some.inj hu
      have hcx := HC.out j x hx
      have ea : (⟨b, off, none⟩ : Addr).add j = ⟨b, off + j, none⟩ := by simp [Addr.add]
      rw [ea]
      exact (World.cell?_alloc_lt _ _ _ (block_lt_of_cell hcx)).trans hcx
  case c2 => intro u hu; obtain ⟨x, _, rfl⟩ := List.mem_map.1 hu; rfl
  case c3 => unfold maxLen; omega
  case c4 => omega
  case c5 => simp
  intro v' w3 hown3 hgrow hnil
  have hn : v' ≠ .slice none 0 0 := hnil
  have hb := below_grown (ext1 w (.cells #[] 2)) hown.out (Nat.le_refl _) hgrow
  go_wp2
  go_ret
  exact ⟨_, rfl, hown3, hn, hb⟩
end Go.Proofs.Ytkimmahmbacjpaa
