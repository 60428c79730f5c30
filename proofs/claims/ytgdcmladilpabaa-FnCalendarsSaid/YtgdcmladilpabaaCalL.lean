/- LeapYears: both walks. No condition. -/
import Derived.Test.YtgdcmladilpabaaCalW
import Derived.Test.YtgdcmladilpabaaSlices
namespace Go.Proofs.Ytgdcmladilpabaa
open Go.RowKit Go.Sort

/-- The leap years among the first k. -/
def leapsTo (l c s : Int) : Nat → List Int
  | 0 => []
  | k + 1 => leapsTo l c s k ++ (if leapB l c s k = true then [(k : Int)] else [])
theorem leapsTo_length (l c s : Int) (k : Nat) : (leapsTo l c s k).length ≤ k := by
  induction k with
  | zero => simp [leapsTo]
  | succ k ih => simp only [leapsTo, List.length_append]; split <;> simp <;> omega

/-- What holds at a round's head. -/
def LR (l c s : Int) (w : World) (k : Nat) (v : Value) (wr : World) : Prop :=
  wr.ownsRow (w.heap.size + 1) 2 1 v (leapsTo l c s k).length ((leapsTo l c s k).map (Value.int .i64)) ∧ Below w.heap.size w wr ∧ w.heap.size < wr.heap.size ∧
  wr.cell? ⟨w.heap.size, 0, none⟩ = some (.int .i64 l) ∧ wr.cell? ⟨w.heap.size, 1, none⟩ = some (.int .i64 c) ∧ wr.cell? ⟨w.heap.size, 2, none⟩ = some (.int .i64 s)

theorem LR.keep {l c s : Int} {w : World} {k : Nat} {v : Value} {wr w2 : World} (h : LR l c s w k v wr) (hb : leapB l c s k = false) (h2 : Below wr.heap.size wr w2) : LR l c s w (k + 1) v w2 := by
  obtain ⟨hown, hbel, hsz, k0, k1, k2⟩ := h
  have e : leapsTo l c s (k + 1) = leapsTo l c s k := by simp [leapsTo, hb]
  unfold LR
  rw [e]
  exact ⟨own_below hown h2, ext_trans hbel h2, Nat.lt_of_lt_of_le hsz h2.size, (h2.cell (p := ⟨w.heap.size, 0, none⟩) hsz).trans k0, (h2.cell (p := ⟨w.heap.size, 1, none⟩) hsz).trans k1, (h2.cell (p := ⟨w.heap.size, 2, none⟩) hsz).trans k2⟩
theorem LR.push {l c s : Int} {w : World} {k : Nat} {v : Value} {wr w2 : World} (h : LR l c s w k v wr) (hb : leapB l c s k = true) (h2 : Below wr.heap.size wr w2) (v' : Value) (w3 : World) {o : Obj}
    (hown3 : w3.ownsRow (w.heap.size + 1) 2 1 v' ((leapsTo l c s k).length + 1) ((leapsTo l c s k).map (Value.int .i64) ++ [.int .i64 (k : Int)])) (hg : (w2.alloc o).grownBy w3 v.ownBlock) : LR l c s w (k + 1) v' w3 := by
  obtain ⟨hown, hbel, hsz, k0, k1, k2⟩ := h
  have e : leapsTo l c s (k + 1) = leapsTo l c s k ++ [(k : Int)] := by simp [leapsTo, hb]
  have ho2 := (own_below hown h2).alloc o
  have hlt2 : w.heap.size < w2.heap.size := Nat.lt_of_lt_of_le hsz h2.size
  have hlt : w.heap.size < (w2.alloc o).heap.size := by simp; omega
  have hc : ∀ j, w3.cell? ⟨w.heap.size, j, none⟩ = wr.cell? ⟨w.heap.size, j, none⟩ := fun j => by
    rw [own_cell ho2 hg (p := ⟨w.heap.size, j, none⟩) (Nat.lt_succ_self _) hlt, World.cell?_alloc_lt _ _ _ hlt2]
    exact h2.cell (p := ⟨w.heap.size, j, none⟩) hsz
  unfold LR
  rw [e]
  refine ⟨by simpa using hown3, below_grown (ext_alloc (ext_trans hbel h2) o) ho2 (Nat.le_succ _) hg, Nat.lt_of_lt_of_le hlt hg.size, (hc 0).trans k0, (hc 1).trans k1, (hc 2).trans k2⟩

set_option maxRecDepth 100000 in
set_option maxHeartbeats 400000 in
theorem iLeapYears_any (l c s : Int) (w : World) :
    Calls Try.prog 22 #[ruleV l c s] w (RetInts w (if ruleOk l c s = true then leapsTo l c s c.toNat else []) (if ruleOk l c s = true then 0 else 1)) := by
  cases h1 : ruleOk l c s
  · unfold ruleV
    go_enter Try.func22, Try.ntmps22
    go_wp2_with fail
    refine (ValidRule_any l c s _).mono ?_
    rintro e w1 ⟨rfl, hb1⟩
    obtain ⟨hc1, hf1⟩ := bcell hb1
    have hy1 := hb1.size
    (try simp at hy1)
    have hz1_0 : w.heap.size < w1.heap.size := by omega
    go_wp2
    go_ret2
    refine ⟨none, 0, rfl, fun h => absurd h (by simp), ?_⟩
    repeat (first | exact Below.refl _ _ | assumption | refine ext_alloc ?_ _ | refine ext_drew ?_ | refine ext_trans ?_ (by assumption))
  · obtain ⟨a1, a2, a3, a4, a5, a6⟩ := ruleOk_true.1 h1
    obtain ⟨i0, hi, hz0, hz1, hz2⟩ := info_parts info64
    have HI := Lib.hid hi
    unfold ruleV
    go_enter Try.func22, Try.ntmps22
    go_wp2_with fail
    refine (ValidRule_any l c s _).mono ?_
    rintro e w1 ⟨rfl, hb1⟩
    obtain ⟨hc1, hf1⟩ := bcell hb1
    have hy1 := hb1.size
    (try simp at hy1)
    have hz1_0 : w.heap.size < w1.heap.size := by omega
    go_wp2_with fail
    go_loopw [4, 11] (fun v t wr => ∃ k : Nat, (k : Int) ≤ c ∧ t = .int .i64 k ∧ LR l c s w k v wr) (fun _ t _ => c.toNat - (intOf t).toNat)
    case atStart =>
      refine ⟨0, by omega, rfl, ?_⟩
      have hb0 : Below w.heap.size w w1 := ext_trans (ext_alloc (Below.refl _ _) _) hb1
      exact ⟨own_nil, hb0, hz1_0, by rw [hc1 _ _ (by simp)]; simp, by rw [hc1 _ _ (by simp)]; simp, by rw [hc1 _ _ (by simp)]; simp⟩
    case round =>
      obtain ⟨k, hk, rfl, HR⟩ := hrel
      obtain ⟨hown, hbel, hsz, k0, k1, k2⟩ := id HR
      have HO := Lib.hid hown
      clear hown
      by_cases hlt : (k : Int) < c
      · cases hb : leapB l c s k
        · go_wp2_with fail
          refine (isLeapM_any l c s k _ a3 a4 a1 a2 a5 a6 (by omega) (by omega)).mono ?_
          rintro e w2 ⟨rfl, hb2⟩
          go_wp2
          go_roundw
          case rel => exact ⟨k + 1, by omega, by go_num, HR.keep hb hb2⟩
          case measure => simp [intOf]; omega
        · go_wp2_with fail
          refine (isLeapM_any l c s k _ a3 a4 a1 a2 a5 a6 (by omega) (by omega)).mono ?_
          rintro e w2 ⟨rfl, hb2⟩
          have hown2 := own_below HO.out hb2
          have hl := leapsTo_length l c s k
          go_wp2_with (at_builtin; refine wpList_append_own _ rfl _ _ 35 rfl (w.heap.size + 1) 2 i0 (.int .i64 0) 1 8 Try.underlying35 HI.out hz0 hz1 hz2 rfl (by decide) _ _ _ rfl (hown2.alloc _) ⟨w2.heap.size, 0, none⟩ 1 1 [.int .i64 (k : Int)] rfl rfl ?c1 ?c2 ?c3 ?c4 ?c5 ?_)
          case c1 => exact cell_one_new _ _ _
          case c2 => simp [Value.oneCell']
          case c3 => unfold maxLen; omega
          case c4 => omega
          case c5 => have := hb2.size; simp; omega
          intro v' w3 hown3 hgrow _
          have HR3 := HR.push hb hb2 _ _ hown3 hgrow
          clear hown3 hgrow hown2
          go_wp2
          go_roundw
          case rel => exact ⟨k + 1, by omega, by go_num, HR3⟩
          case measure => simp [intOf]; omega
      · go_wp2
        go_ret2
        obtain rfl : c = (k : Int) := by omega
        obtain ⟨hn, A, cc, rfl, hw⟩ := Wr.of_own HO.out
        refine ⟨A, cc, rfl, hw.more (by omega), hbel⟩
set_option maxRecDepth 100000 in
set_option maxHeartbeats 400000 in
theorem sLeapYears_any (l c s : Int) (w : World) :
    Calls Try.prog 23 #[ruleV l c s] w (RetInts w (if ruleOk l c s = true then leapsTo l c s c.toNat else []) (if ruleOk l c s = true then 0 else 1)) := by
  cases h1 : ruleOk l c s
  · unfold ruleV
    go_enter Try.func23, Try.ntmps23
    go_wp2_with fail
    refine (l24Ok_any l c s _).mono ?_
    rintro e w1 ⟨rfl, hb1⟩
    obtain ⟨hc1, hf1⟩ := bcell hb1
    have hy1 := hb1.size
    (try simp at hy1)
    have hz1_0 : w.heap.size < w1.heap.size := by omega
    go_wp2
    go_ret2
    refine ⟨none, 0, rfl, fun h => absurd h (by simp), ?_⟩
    repeat (first | exact Below.refl _ _ | assumption | refine ext_alloc ?_ _ | refine ext_drew ?_ | refine ext_trans ?_ (by assumption))
  · obtain ⟨a1, a2, a3, a4, a5, a6⟩ := ruleOk_true.1 h1
    obtain ⟨i0, hi, hz0, hz1, hz2⟩ := info_parts info64
    have HI := Lib.hid hi
    unfold ruleV
    go_enter Try.func23, Try.ntmps23
    go_wp2_with fail
    refine (l24Ok_any l c s _).mono ?_
    rintro e w1 ⟨rfl, hb1⟩
    obtain ⟨hc1, hf1⟩ := bcell hb1
    have hy1 := hb1.size
    (try simp at hy1)
    have hz1_0 : w.heap.size < w1.heap.size := by omega
    go_wp2_with fail
    go_loopw [4, 5] (fun v t wr => ∃ k : Nat, (k : Int) ≤ c ∧ t = .int .i64 k ∧ LR l c s w k v wr) (fun _ t _ => c.toNat - (intOf t).toNat)
    case atStart =>
      refine ⟨0, by omega, rfl, ?_⟩
      have hb0 : Below w.heap.size w w1 := ext_trans (ext_alloc (Below.refl _ _) _) hb1
      exact ⟨World.ownsRow_lit w1 #[] 0 (by omega) (by simp) rfl, ext_alloc hb0 _, by simp; omega, by rw [World.cell?_alloc_lt _ _ _ (by simpa using hz1_0), hc1 _ _ (by simp)]; simp, by rw [World.cell?_alloc_lt _ _ _ (by simpa using hz1_0), hc1 _ _ (by simp)]; simp, by rw [World.cell?_alloc_lt _ _ _ (by simpa using hz1_0), hc1 _ _ (by simp)]; simp⟩
    case round =>
      obtain ⟨k, hk, rfl, HR⟩ := hrel
      obtain ⟨hown, hbel, hsz, k0, k1, k2⟩ := id HR
      have HO := Lib.hid hown
      clear hown
      by_cases hlt : (k : Int) < c
      · cases hb : leapB l c s k
        · go_wp2_with fail
          refine (l24Is_any l c s k _ a3 a4 a1 a2 a5 a6 (by omega) (by omega)).mono ?_
          rintro e w2 ⟨rfl, hb2⟩
          go_wp2
          go_roundw
          case rel => exact ⟨k + 1, by omega, by go_num, HR.keep hb hb2⟩
          case measure => simp [intOf]; omega
        · go_wp2_with fail
          refine (l24Is_any l c s k _ a3 a4 a1 a2 a5 a6 (by omega) (by omega)).mono ?_
          rintro e w2 ⟨rfl, hb2⟩
          have hown2 := own_below HO.out hb2
          have hl := leapsTo_length l c s k
          go_wp2_with (at_builtin; refine wpList_append_own _ rfl _ _ 35 rfl (w.heap.size + 1) 2 i0 (.int .i64 0) 1 8 Try.underlying35 HI.out hz0 hz1 hz2 rfl (by decide) _ _ _ rfl (hown2.alloc _) ⟨w2.heap.size, 0, none⟩ 1 1 [.int .i64 (k : Int)] rfl rfl ?c1 ?c2 ?c3 ?c4 ?c5 ?_)
          case c1 => exact cell_one_new _ _ _
          case c2 => simp [Value.oneCell']
          case c3 => unfold maxLen; omega
          case c4 => omega
          case c5 => have := hb2.size; simp; omega
          intro v' w3 hown3 hgrow _
          have HR3 := HR.push hb hb2 _ _ hown3 hgrow
          clear hown3 hgrow hown2
          go_wp2
          go_roundw
          case rel => exact ⟨k + 1, by omega, by go_num, HR3⟩
          case measure => simp [intOf]; omega
      · go_wp2
        go_ret2
        obtain rfl : c = (k : Int) := by omega
        obtain ⟨hn, A, cc, rfl, hw⟩ := Wr.of_own HO.out
        refine ⟨A, cc, rfl, hw.more (by omega), hbel⟩
end Go.Proofs.Ytgdcmladilpabaa
