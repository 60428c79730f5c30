/- Words read as numbers: the program's walk. No condition but those that each theorem names. -/
import Derived.Test.YtbcikkaoohihhaaGreatDoorSplW
namespace Go.Proofs.YtbcikkaoohihhaaGreatDoor
open Go.RowKit Go.Sort

/-- What a call returns that reads words as numbers. -/
def RetNum (w : World) (R : Option (List Int)) (e : Ending) (w' : World) : Prop :=
  ∃ B c, e = .returned (.tuple #[.slice B (R.getD []).length c, .bool R.isSome]) ∧ Wr (Value.int .i64) w' w.heap.size B (R.getD []) ∧ Below w.heap.size w w'
/-- .. with its capacity. -/
def RetNumC (w : World) (R : Option (List Int)) (e : Ending) (w' : World) : Prop :=
  ∃ B c, e = .returned (.tuple #[.slice B (R.getD []).length c, .bool R.isSome]) ∧ Wr (Value.int .i64) w' w.heap.size B (R.getD []) ∧ Below w.heap.size w w' ∧ (R.getD []).length ≤ c ∧ c ≤ 1000000000
set_option maxRecDepth 100000 in
set_option maxHeartbeats 2000000 in
theorem readDecimals_cap (A : Option Addr) (c : Nat) (ws : List ByteArray) (w : World) (hx : Rd Value.string w w.heap.size A ws) (hl : ws.length ≤ 1000000000) (hsz : ∀ x ∈ ws, x.size ≤ 1000000000) (hV : Vars w) :
    Calls Tryz.prog 128 #[.slice A ws.length c] w (RetNumC w (numsB ws)) := by
  obtain ⟨i0, hi, hz0, hz1, hz2⟩ := info_parts info64
  have hmk : ∀ W : World, (Instr.makeSlice 32 (.int .i64 (ws.length : Int)) (.int .i64 (ws.length : Int))).run Tryz.prog W = .ok (.slice (some ⟨W.heap.size, 0, none⟩) ws.length ws.length) (W.alloc (.cells (madeCells #[.int .i64 0] ws.length) 2)) := fun W => by
    have h := run_make (P := Tryz.prog) W 32 2 i0 _ Tryz.underlying32 hi hz0 .i64 .i64 (ws.length : Int) (ws.length : Int) (by omega) (by omega) (by rw [hz2]; omega) (by omega)
    rw [hz1] at h
    simpa [Value.cells] using h
  have HSZ := Lib.hid hsz
  have HVV := Lib.hid (fun W (hb : Below w.heap.size w W) => hV.next hb)
  obtain ⟨R, hR⟩ : ∃ R, numsB ws = R := ⟨_, rfl⟩
  have HN : Hid (∀ k x, ws[k]? = some x → numB x = none → R = none) := fun k x h1 h2 => by rw [← hR]; exact nums_none h1 h2
  have HF : Hid (∀ ns, numsB (ws.take ws.length) = some ns → R = some ns) := fun ns h => by rw [← hR]; rwa [List.take_of_length_le (Nat.le_refl _)] at h
  rw [hR]
  clear hR hV hsz
  go_enter Tryz.func128, Tryz.ntmps128
  go_wp2_with fail
  have hms : (madeCells #[.int .i64 0] ws.length).size = ws.length := size_madeCells _ _
  obtain ⟨W, hW, h1, h2, h3, h4⟩ : ∃ W, W = w.alloc (.cells (madeCells #[.int .i64 0] ws.length) 2) ∧ Below w.heap.size w W ∧ w.heap.size < W.heap.size ∧ (∀ j, j < ws.length → ∃ v, W.cell? ⟨w.heap.size, j, none⟩ = some v) ∧ ∀ j, W.frozen? ⟨w.heap.size, j, none⟩ = false :=
    ⟨_, rfl, ext_alloc (Below.refl _ _) _, by simp, fun j hj => madeCell (by rw [hms]; exact hj), fun j => World.frozen?_alloc_at _ _ _ _ rfl⟩
  rw [← hW]
  clear hW hms
  have H3 := Lib.hid h3
  have H4 := Lib.hid h4
  clear h3 h4 hmk
  go_loopw [14] (fun t wr => ∃ (i : Nat) (ns : List Int), i ≤ ws.length ∧ t = .int .i64 i ∧ Hid (numsB (ws.take i) = some ns) ∧ Hid ((∀ j x, ns[j]? = some x → wr.cell? ⟨w.heap.size, j, none⟩ = some (.int .i64 x)) ∧ (∀ j, j < ws.length → ∃ v, wr.cell? ⟨w.heap.size, j, none⟩ = some v) ∧ (∀ j, wr.frozen? ⟨w.heap.size, j, none⟩ = false) ∧ Below w.heap.size w wr ∧ w.heap.size < wr.heap.size)) (fun t _ => ws.length - (intOf t).toNat)
  case atStart => exact ⟨0, [], by omega, rfl, rfl, fun j x h => by simp at h, H3.out, H4.out, h1, h2⟩
  case round =>
    obtain ⟨i, ns, hi', rfl, HNS, HR⟩ := hrel
    by_cases hlt : i < ws.length
    · obtain ⟨b, off, rfl, hb, hc⟩ := hx (by omega)
      obtain ⟨x, hxi⟩ : ∃ x, ws[i]? = some x := ⟨_, List.getElem?_eq_getElem hlt⟩
      have hci := (HR.out.2.2.2.1.cell (p := ⟨b, off + i, none⟩) hb).trans (hc i x hxi)
      have HX := Lib.hid hxi
      have hxs := HSZ.out x (List.mem_of_getElem? hxi)
      clear hc hxi
      have hln : ns.length = i := by
        have h := nums_len HNS.out
        rw [List.length_take] at h
        omega
      have HLN := Lib.hid hln
      clear hln
      obtain ⟨v, hv⟩ := HR.out.2.1 i hlt
      have i0 : (0 : Int) ≤ (i : Int) := by omega
      have i1 : (i : Int) < (ws.length : Int) := by omega
      have HC := Lib.hid (iReadDecimal_any x wr (by omega) (HVV.out wr HR.out.2.2.2.1))
      have hbd := num_bd_ x
      cases hk : numK x
      · have HQ := Lib.hid (HN.out i x HX.out (num_not hk))
        rw [hk] at HC
        generalize numN x = q at *
        clear hk
        go_wp2_with fail
        refine HC.out.mono ?_
        rintro e w1 ⟨rfl, hb1⟩
        have hB := ext_trans HR.out.2.2.2.1 hb1
        go_wp2
        go_ret2
        rw [HQ.out]
        exact ⟨none, 0, rfl, fun h => absurd h (by simp), hB, Nat.le_refl _, by omega⟩
      · have HQ := Lib.hid (num_of hk)
        rw [hk] at HC
        generalize numN x = q at *
        clear hk
        go_wp2_with fail
        refine HC.out.mono ?_
        rintro e w1 ⟨rfl, hb1⟩
        have HR1 : Hid ((∀ j x, ns[j]? = some x → w1.cell? ⟨w.heap.size, j, none⟩ = some (.int .i64 x)) ∧ (∀ j, j < ws.length → ∃ v, w1.cell? ⟨w.heap.size, j, none⟩ = some v) ∧ (∀ j, w1.frozen? ⟨w.heap.size, j, none⟩ = false) ∧ Below w.heap.size w w1 ∧ w.heap.size < w1.heap.size) := by
          obtain ⟨r1, r2, r3, r4, r5⟩ := HR.out
          have hz := hb1.size
          refine ⟨fun j x h => (hb1.cell (p := ⟨w.heap.size, j, none⟩) r5).trans (r1 j x h), fun j h => ?_, fun j => (hb1.frozen (p := ⟨w.heap.size, j, none⟩) r5).trans (r3 j), ext_trans r4 hb1, by omega⟩
          obtain ⟨v, hv⟩ := r2 j h
          exact ⟨v, (hb1.cell (p := ⟨w.heap.size, j, none⟩) r5).trans hv⟩
        clear HR hv hci hb1
        obtain ⟨v, hv⟩ := HR1.out.2.1 i hlt
        have hfi : w1.frozen? ⟨w.heap.size, i, none⟩ = false := HR1.out.2.2.1 _
        go_wp2
        go_roundw
        case rel =>
          obtain ⟨r1, r2, r3, r4, r5⟩ := HR1.out
          refine ⟨i + 1, ns ++ [q], by omega, by go_num, nums_take HNS.out HX.out HQ.out, fun j y hy => ?_, fun j hj => ?_, fun j => ?_, r4.setCell (Nat.le_refl _) _, by simpa using r5⟩
          · have hln := HLN.out
            rcases Nat.lt_or_ge j i with h | h
            · refine (World.cell?_setCell_other w1 ⟨w.heap.size, i, none⟩ ⟨w.heap.size, j, none⟩ _ ?_).trans (r1 j y ?_)
              · intro e; injection e; omega
              · rwa [List.getElem?_append_left (by omega)] at hy
            · have hj : j < (ns ++ [q]).length := (List.getElem?_eq_some_iff.1 hy).1
              rw [List.length_append] at hj
              simp at hj
              obtain rfl : j = i := by omega
              have e2 : q = y := by
                rw [List.getElem?_append_right (by omega), hln, Nat.sub_self] at hy
                simpa using hy
              rw [← e2]
              exact World.cell?_setCell_same _ _ _ hv
          · by_cases h : j = i
            · subst h; exact ⟨_, World.cell?_setCell_same _ _ _ hv⟩
            · obtain ⟨u, hu⟩ := r2 j hj
              refine ⟨u, (World.cell?_setCell_other w1 ⟨w.heap.size, i, none⟩ ⟨w.heap.size, j, none⟩ _ ?_).trans hu⟩
              intro e; injection e; omega
          · exact (World.frozen?_setCell _ _ _ _).trans (r3 j)
        case measure => simp [intOf]; omega
    · have hil : i = ws.length := by omega
      have HNS2 : Hid (numsB (ws.take ws.length) = some ns) := by rw [← hil]; exact HNS.out
      have HQ := Lib.hid (HF.out ns HNS2.out)
      have HLN : Hid (ns.length = ws.length) := by
        have h := nums_len HNS2.out
        rwa [List.take_of_length_le (Nat.le_refl _)] at h
      clear hil
      go_wp2
      go_ret2
      obtain ⟨r1, r2, r3, r4, r5⟩ := HR.out
      rw [HQ.out]
      refine ⟨some ⟨w.heap.size, 0, none⟩, ws.length, by rw [show (some ns).getD [] = ns from rfl, HLN.out]; rfl, fun _ => ⟨w.heap.size, 0, rfl, Nat.le_refl _, r5, fun j x hx => ?_, r3⟩, r4, by rw [show (some ns).getD [] = ns from rfl, HLN.out]; exact Nat.le_refl _, hl⟩
      rw [Nat.zero_add]
      exact r1 j x hx
theorem readDecimals_any (A : Option Addr) (c : Nat) (ws : List ByteArray) (w : World) (hx : Rd Value.string w w.heap.size A ws) (hl : ws.length ≤ 1000000000) (hsz : ∀ x ∈ ws, x.size ≤ 1000000000) (hV : Vars w) :
    Calls Tryz.prog 128 #[.slice A ws.length c] w (RetNum w (numsB ws)) :=
  (readDecimals_cap A c ws w hx hl hsz hV).mono fun _ _ ⟨B, c, h1, h2, h3, _⟩ => ⟨B, c, h1, h2, h3⟩
end Go.Proofs.YtbcikkaoohihhaaGreatDoor
