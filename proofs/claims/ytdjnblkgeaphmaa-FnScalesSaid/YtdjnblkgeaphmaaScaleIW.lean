/- ScaleNotes: the program's walk. No condition but those that each theorem names. -/
import Derived.Test.YtdjnblkgeaphmaaScaleQ
import Derived.Test.YtdjnblkgeaphmaaScaleW
import Derived.Test.YtdjnblkgeaphmaaSortF
import Derived.Lib.OwnBridge
namespace Go.Proofs.Ytdjnblkgeaphmaa
open Go.RowKit Go.Sort Go.Lib Go.Shelf

theorem cells_frozen_sort {α : Type} [Inhabited α] (enc : α → Value) (w : World) (blk m : Nat) (dk : Array α) (os : Array Obj) (hb : blk < w.heap.size) (j : Nat) :
    (sortWorld enc w blk 0 m dk os).frozen? ⟨blk, j, none⟩ = w.frozen? ⟨blk, j, none⟩ := by
  have hk : Below (putRow enc (Sort.ahead w m) blk 0 dk).heap.size (putRow enc (Sort.ahead w m) blk 0 dk) (sortWorld enc w blk 0 m dk os) := below_regrown _ _ os
  rw [hk.frozen (p := ⟨blk, j, none⟩) (by simp [putRow, mapBlock, Sort.ahead]; exact hb), frozen?_putRow]
  rfl
theorem below_sort {α : Type} [Inhabited α] (enc : α → Value) (w : World) (blk m : Nat) (dk : Array α) (os : Array Obj) (hb : blk < w.heap.size) : Below blk w (sortWorld enc w blk 0 m dk os) := by
  have hk : Below (putRow enc (Sort.ahead w m) blk 0 dk).heap.size (putRow enc (Sort.ahead w m) blk 0 dk) (sortWorld enc w blk 0 m dk os) := below_regrown _ (putRow enc (Sort.ahead w m) blk 0 dk).drawn os
  exact (below_putRow (Below.refl blk w) (Nat.le_refl _)).trans (hk.mono (by simp [putRow, mapBlock, Sort.ahead]; omega))

set_option maxHeartbeats 1000000 in
/-- The sort, at the first n notes in block g. -/
theorem sortNotes_any (g n : Nat) (w : World) (h1 : 1 ≤ n) (h2 : n ≤ 40) (hg : g < w.heap.size) (hc : ∀ j, j < n → w.cell? ⟨g, j, none⟩ = some (.int .i64 (j : Int)) ∧ w.frozen? ⟨g, j, none⟩ = false) (hfr : ∀ j, w.frozen? ⟨g, j, none⟩ = false) :
    Calls Try.prog 182 #[.slice (some ⟨g, 0, none⟩) n n, .func (.func 183) #[] #[]] w fun e w' => e = .returned (.tuple #[]) ∧ Wr (Value.int .i64) w' g (some ⟨g, 0, none⟩) (srtI n) ∧ Below g w w' := by
  have eg : ∀ args w, (callFunc 183 args).run Try.prog w = .ok (.enter 183 args) w := enters_of Try.func183 (by kernel_rfl) rfl
  have hH : Holds encF w g 0 (allF n) := fun j hj => by
    rw [allF_size] at hj
    have e : (allF n)[j]! = fz j := by
      rw [getElem!_pos _ j (by rw [allF_size]; exact hj)]
      simp [allF]
    have z : ((fz j).val : Int) = j := by
      have : (fz j).val = j := Nat.mod_eq_of_lt (by omega)
      rw [this]
    rw [e, encF, z, Nat.zero_add]
    exact hc j hj
  have hcmp : CmpLays1 Try.prog 183 #[] encF cfF g 0 (allF n).size w := fun m os dk hs x y => (scaleCmp_any x.val y.val _ (by omega) (by omega)).mono fun e w' ⟨he, hb⟩ => ⟨he, hb.grown⟩
  have hcon := Any.slices_SortFunc_total Try.sortF encF (fun _ => rfl) cfF swoF 183 #[] g 0 n (allF n) w eg hcmp hH hg (by rw [allF_size]; omega) totF
  rw [allF_size, sort_is h1 h2] at hcon
  change Calls Try.prog 182 _ _ _ at hcon
  refine hcon.mono ?_
  rintro e w' ⟨rfl, q, os, rfl⟩
  refine ⟨rfl, fun _ => ?_, ?_⟩
  · have hh := holds_sortWorld encF w g 0 q (allF n) (srtF n) os hg hH (by rw [srtF_size h2, allF_size])
    refine ⟨g, 0, rfl, Nat.le_refl _, lt_sortWorld encF w g 0 q (srtF n) os hg, fun j x hx => ?_, fun j => ?_⟩
    · have hj : j < n := by have := (List.getElem?_eq_some_iff.1 hx).1; rw [srtI_len h2] at this; exact this
      have h := (hh j (by rw [srtF_size h2]; exact hj)).1
      rw [h, srtF_get h2 hj, encF, srt_val h2 hj hx]
    · rw [cells_frozen_sort _ _ _ _ _ _ hg]
      exact hfr j
  · exact below_sort _ _ _ _ _ _ hg
set_option maxHeartbeats 1000000 in
theorem scaleNotes_any (n : Nat) (w : World) (h1 : 1 ≤ n) (h2 : n ≤ 40) :
    Calls Try.prog 133 #[.int .i64 (n : Int)] w (RetList w (srtI n)) := by
  obtain ⟨i0, hi, hz0, hz1, hz2⟩ := info_parts info64
  have hmk : ∀ W : World, (Instr.makeSlice 26 (.int .i64 (n : Int)) (.int .i64 (n : Int))).run Try.prog W = .ok (.slice (some ⟨W.heap.size, 0, none⟩) n n) (W.alloc (.cells (madeCells #[.int .i64 0] n) 2)) := fun W => by
    have h := run_make (P := Try.prog) W 26 2 i0 _ Try.underlying26 hi hz0 .i64 .i64 (n : Int) (n : Int) (by omega) (by omega) (by rw [hz2]; omega) (by omega)
    rw [hz1] at h
    simpa [Value.cells] using h
  have HSort := Lib.hid (fun (W : World) (g : Nat) hg hc hfr => sortNotes_any g n W h1 h2 hg hc hfr)
  go_enter Try.func133, Try.ntmps133
  go_wp2_with fail
  have hms : (madeCells #[.int .i64 0] n).size = n := size_madeCells _ _
  obtain ⟨W, hW, g1, g2, g3, g4⟩ : ∃ W, W = w.alloc (.cells (madeCells #[.int .i64 0] n) 2) ∧ Below w.heap.size w W ∧ w.heap.size < W.heap.size ∧ (∀ j, j < n → ∃ v, W.cell? ⟨w.heap.size, j, none⟩ = some v) ∧ ∀ j, W.frozen? ⟨w.heap.size, j, none⟩ = false :=
    ⟨_, rfl, ext_alloc (Below.refl _ _) _, by simp, fun j hj => madeCell (by rw [hms]; exact hj), fun j => World.frozen?_alloc_at _ _ _ _ rfl⟩
  rw [← hW]
  clear hW hms
  have H3 := Lib.hid g3
  have H4 := Lib.hid g4
  clear g3 g4 hmk
  go_loopw [9] (fun t wr => ∃ i : Nat, i ≤ n ∧ t = .int .i64 i ∧ Hid ((∀ j, j < i → wr.cell? ⟨w.heap.size, j, none⟩ = some (.int .i64 (j : Int))) ∧ (∀ j, j < n → ∃ v, wr.cell? ⟨w.heap.size, j, none⟩ = some v) ∧ (∀ j, wr.frozen? ⟨w.heap.size, j, none⟩ = false) ∧ Below w.heap.size w wr ∧ w.heap.size < wr.heap.size)) (fun t _ => n - (intOf t).toNat)
  case atStart => exact ⟨0, by omega, rfl, fun _ h => absurd h (by omega), H3.out, H4.out, g1, g2⟩
  case round =>
    obtain ⟨i, hi', rfl, HR⟩ := hrel
    by_cases hlt : i < n
    · obtain ⟨v, hv⟩ := HR.out.2.1 i hlt
      have hfi : wr.frozen? ⟨w.heap.size, i, none⟩ = false := HR.out.2.2.1 _
      have i0 : (0 : Int) ≤ (i : Int) := by omega
      have i1 : (i : Int) < (n : Int) := by omega
      go_wp2
      go_roundw
      case rel =>
        obtain ⟨r1, r2, r3, r4, r5⟩ := HR.out
        refine ⟨i + 1, by omega, by go_num, fun j hj => ?_, fun j hj => ?_, fun j => ?_, r4.setCell (Nat.le_refl _) _, by simpa using r5⟩
        · rcases Nat.lt_or_ge j i with h | h
          · refine (World.cell?_setCell_other wr ⟨w.heap.size, i, none⟩ ⟨w.heap.size, j, none⟩ _ ?_).trans (r1 j h)
            intro e; injection e; omega
          · obtain rfl : j = i := by omega
            exact World.cell?_setCell_same _ _ _ hv
        · by_cases h : j = i
          · subst h; exact ⟨_, World.cell?_setCell_same _ _ _ hv⟩
          · obtain ⟨u, hu⟩ := r2 j hj
            refine ⟨u, (World.cell?_setCell_other wr ⟨w.heap.size, i, none⟩ ⟨w.heap.size, j, none⟩ _ ?_).trans hu⟩
            intro e; injection e; omega
        · exact (World.frozen?_setCell _ _ _ _).trans (r3 j)
      case measure => simp [intOf]; omega
    · go_wp2_with fail
      obtain ⟨r1, r2, r3, r4, r5⟩ := HR.out
      refine (HSort.out _ w.heap.size r5 (fun j hj => ⟨r1 j (by omega), r3 j⟩) r3).mono ?_
      rintro e w2 ⟨rfl, hw2, hb2⟩
      clear r1 r2 r3 HR
      go_wp2
      go_ret
      have hl : (srtI n).length = n := srtI_len h2
      exact ⟨some ⟨w.heap.size, 0, none⟩, n, by rw [hl]; rfl, hw2, r4.trans hb2⟩
end Go.Proofs.Ytdjnblkgeaphmaa
