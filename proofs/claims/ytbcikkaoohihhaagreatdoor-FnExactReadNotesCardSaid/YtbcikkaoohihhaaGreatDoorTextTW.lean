/- The texts of terms: both walks. No condition but those that each theorem names. -/
import Derived.Test.YtbcikkaoohihhaaGreatDoorMrB
import Derived.Test.YtbcikkaoohihhaaGreatDoorNameW
import Derived.Lib.Join
namespace Go.Proofs.YtbcikkaoohihhaaGreatDoor
open Go.RowKit Go.Sort

theorem jtl_snoc (sep x : List UInt8) : ∀ r : List (List UInt8), Lib.joinTail sep (r ++ [x]) = Lib.joinTail sep r ++ (sep ++ x) := by
  intro r
  simp [Lib.joinTail]
theorem jn_snoc (l : List (List UInt8)) (x sep : List UInt8) : Lib.join (l ++ [x]) sep = if 0 < l.length then Lib.join l sep ++ sep ++ x else x := by
  cases l with
  | nil => simp [Lib.join_one]
  | cons a r =>
    rw [if_pos (by simp), List.cons_append, Lib.join_cons, Lib.join_cons, jtl_snoc]
    simp
theorem bap_data (a b : ByteArray) : (a ++ b).data.toList = a.data.toList ++ b.data.toList := by
  simp
def dcL (n : Int) : List UInt8 := (decB n).data.toList
/-- Decimals with commas between. -/
def jnB (xs : List Int) : ByteArray := ⟨(Lib.join (xs.map dcL) [44, 32]).toArray⟩
theorem jn_len {xs : List Int} (h : ∀ t ∈ xs, -1000000000 ≤ t ∧ t ≤ 1000000000) : ∀ k, k ≤ xs.length → (Lib.join ((xs.take k).map dcL) [44, 32]).length ≤ 23 * k
  | 0, _ => by simp [Lib.join_nil]
  | k + 1, hk => by
    have hx : xs[k]? = some (xs[k]'(by omega)) := List.getElem?_eq_getElem (by omega)
    have ih := jn_len h k (by omega)
    have hb := h _ (List.getElem_mem (show k < xs.length by omega))
    have hz := decB_size (n := xs[k]'(by omega)) (by omega) (by omega)
    have hq : (dcL (xs[k]'(by omega))).length = (decB (xs[k]'(by omega))).size := by unfold dcL; cases decB (xs[k]'(by omega)); rfl
    rw [List.take_add_one, hx, List.map_append]
    show (Lib.join (_ ++ [dcL _]) _).length ≤ _
    rw [jn_snoc]
    split
    · simp only [List.length_append, List.length_cons, List.length_nil]; omega
    · omega
theorem jnB_size {xs : List Int} (h : ∀ t ∈ xs, -1000000000 ≤ t ∧ t ≤ 1000000000) : (jnB xs).size ≤ 23 * xs.length := by
  have := jn_len h xs.length (Nat.le_refl _)
  rw [List.take_length] at this
  have e : (jnB xs).size = (Lib.join (xs.map dcL) [44, 32]).length := by unfold jnB; simp [ByteArray.size]
  omega
theorem tmO_jn (t : Int) (r : List Int) : ∀ k, k < r.length → (tmO (t :: r) (k + 2)).data.toList = ([91] ++ dcL t) ++ ([59, 32] ++ Lib.join ((r.take (k + 1)).map dcL) [44, 32])
  | 0, hk => by
    obtain ⟨y, s, rfl⟩ : ∃ y s, r = y :: s := by cases r with | nil => simp at hk | cons y s => exact ⟨y, s, rfl⟩
    simp [tmO, dcL, Lib.join_one]
  | k + 1, hk => by
    have ih := tmO_jn t r k (by omega)
    have hx : r[k + 1]? = some (r[k + 1]'hk) := List.getElem?_eq_getElem hk
    have e : tmO (t :: r) (k + 1 + 2) = (tmO (t :: r) (k + 2) ++ ({ data := #[44, 32] } : ByteArray)) ++ decB (r[k + 1]'hk) := by
      rw [show k + 1 + 2 = (k + 1) + 2 from rfl, tmO, if_neg (by omega)]
      simp only [List.getD, List.getElem?_cons_succ, hx, Option.getD_some]
    have ht : r.take (k + 1 + 1) = r.take (k + 1) ++ [r[k + 1]'hk] := by rw [List.take_add_one, hx]; rfl
    rw [e, bap_data, bap_data, ih, ht, List.map_append]
    show _ = ([91] ++ dcL t) ++ ([59, 32] ++ Lib.join (_ ++ [dcL _]) _)
    rw [jn_snoc, if_pos (by simp; omega)]
    simp [dcL]
theorem tmT_one (t : Int) : tmT [t] = (({ data := #[91] } : ByteArray) ++ decB t) ++ ({ data := #[93] } : ByteArray) := rfl
theorem tmT_more (t : Int) (r : List Int) (h : 0 < r.length) : tmT (t :: r) = ((({ data := #[91] } : ByteArray) ++ decB t) ++ (({ data := #[59, 32] } : ByteArray) ++ jnB r)) ++ ({ data := #[93] } : ByteArray) := by
  have e := tmO_jn t r (r.length - 1) (by omega)
  rw [show r.length - 1 + 2 = (t :: r).length by simp; omega, show r.length - 1 + 1 = r.length by omega, List.take_length] at e
  have q : tmO (t :: r) (t :: r).length = ((({ data := #[91] } : ByteArray) ++ decB t) ++ (({ data := #[59, 32] } : ByteArray) ++ jnB r)) := by
    apply ByteArray.ext
    apply Array.toList_inj.1
    rw [e, bap_data, bap_data, bap_data]
    simp [dcL, jnB]
  unfold tmT
  rw [q]

/-- What the texts of the numbers hold up to k. -/
def CpD (w : World) (h : Nat) (ds : List ByteArray) (k : Nat) (W : World) : Prop :=
  (∀ j d, j < k → ds[j]? = some d → W.cell? ⟨h, j, none⟩ = some (.string d)) ∧ (∀ j, j < ds.length → ∃ v, W.cell? ⟨h, j, none⟩ = some v) ∧ (∀ j, W.frozen? ⟨h, j, none⟩ = false) ∧ Below w.heap.size w W ∧ h < W.heap.size
section
variable {w W W' : World} {h : Nat} {ds : List ByteArray} {k : Nat}
theorem CpD.next (hc : CpD w h ds k W) (hb : Below W.heap.size W W') : CpD w h ds k W' := by
  obtain ⟨h1, h2, h3, h4, h5⟩ := hc
  exact ⟨fun j d hj hx => (hb.cell (p := ⟨h, j, none⟩) h5).trans (h1 j d hj hx), fun j hj => (h2 j hj).imp fun v hv => (hb.cell (p := ⟨h, j, none⟩) h5).trans hv, fun j => (hb.frozen (p := ⟨h, j, none⟩) h5).trans (h3 j), h4.trans (hb.mono h4.size), Nat.lt_of_lt_of_le h5 hb.size⟩
theorem CpD.set {d : ByteArray} (hc : CpD w h ds k W) (hw : w.heap.size ≤ h) (hk : k < ds.length) (hx : ds[k]? = some d) : CpD w h ds (k + 1) (W.setCell ⟨h, k, none⟩ (.string d)) := by
  obtain ⟨h1, h2, h3, h4, h5⟩ := hc
  obtain ⟨v0, hv0⟩ := h2 k hk
  refine ⟨fun j y hj hy => ?_, fun j hj => ?_, fun j => (World.frozen?_setCell _ _ _ _).trans (h3 j), h4.setCell hw _, by simpa using h5⟩
  · rcases Nat.lt_or_ge j k with g | g
    · exact (World.cell?_setCell_other _ _ _ _ (by simp <;> omega)).trans (h1 j y g hy)
    · obtain rfl : j = k := by omega
      obtain rfl := Option.some.inj (hx.symm.trans hy)
      exact World.cell?_setCell_same _ _ _ hv0
  · by_cases e : j = k
    · subst e; exact ⟨_, World.cell?_setCell_same _ _ _ hv0⟩
    · obtain ⟨u, hu⟩ := h2 j hj
      exact ⟨u, (World.cell?_setCell_other _ _ _ _ (by simp <;> omega)).trans hu⟩
end
theorem infoStrD : (Tryz.prog.info? 9).map (fun i => (i.zero, i.size, i.bytes)) = some (some (.string ByteArray.empty), 1, 16) := by kernel_rfl
set_option maxHeartbeats 2000000 in
theorem decimals_any (A : Option Addr) (c : Nat) (xs : List Int) (w : World) (hx : Rd (Value.int .i64) w w.heap.size A xs) (hl : xs.length ≤ 60) (hbd : ∀ t ∈ xs, -1000000000 ≤ t ∧ t ≤ 1000000000) (hT : Tab10 w) :
    Calls Tryz.prog 109 #[.slice A xs.length c, .string { data := #[44, 32] }] w fun e w' => e = .returned (.string (jnB xs)) ∧ Below w.heap.size w w' := by
  have HX : Hid (∀ W, Below w.heap.size w W → Rd (Value.int .i64) W W.heap.size A xs) := fun W hb => (hx.below hb).more hb.size
  have HT : Hid (∀ W, Below w.heap.size w W → Tab10 W) := fun W hb => hT.next hb
  have HBD := Lib.hid hbd
  have hjl := jn_len hbd xs.length (Nat.le_refl _)
  rw [List.take_length] at hjl
  obtain ⟨ds, hds⟩ : ∃ ds, xs.map decB = ds := ⟨_, rfl⟩
  have hdl : ds.length = xs.length := by rw [← hds, List.length_map]
  have hdm : xs.map dcL = ds.map (·.data.toList) := by rw [← hds, List.map_map]; rfl
  have HDS : Hid (∀ j x, xs[j]? = some x → ds[j]? = some (decB x)) := fun j x h => by rw [← hds, List.getElem?_map, h]; rfl
  have HDL := Lib.hid hdl
  have HJ : Hid (∀ (h : Nat) (W : World), CpD w h ds ds.length W → Calls Tryz.prog 151 #[.slice (some ⟨h, 0, none⟩) xs.length xs.length, .string { data := #[44, 32] }] W fun e w' => e = .returned (.string (jnB xs)) ∧ Below W.heap.size W w') := fun h W hc => by
    have k := Tryz.strings_Join h 0 xs.length ds { data := #[44, 32] } W (fun j y hy => by
      rw [Nat.zero_add]
      exact hc.1 j y (by have := (List.getElem?_eq_some_iff.1 hy).1; omega) hy) hc.2.2.2.2 (by first | omega | (simp; omega)) (by first | omega | simp | (simp; omega)) (by rw [← hdm]; exact Nat.le_trans hjl (by omega))
    rw [← hdm, hdl] at k
    exact k
  generalize jnB xs = R at *
  obtain ⟨i0, hi, hz0, hz1, hz2⟩ := info_parts infoStrD
  have hmk : ∀ W : World, (Instr.makeSlice 55 (.int .i64 (xs.length : Int)) (.int .i64 (xs.length : Int))).run Tryz.prog W = .ok (.slice (some ⟨W.heap.size, 0, none⟩) xs.length xs.length) (W.alloc (.cells (madeCells #[.string ByteArray.empty] xs.length) 9)) := fun W => by
    have h := run_make (P := Tryz.prog) W 55 9 i0 _ Tryz.underlying55 hi hz0 .i64 .i64 (xs.length : Int) (xs.length : Int) (by omega) (by omega) (by rw [hz2]; omega) (by omega)
    rw [hz1] at h
    simpa [Value.cells] using h
  have hms : (madeCells #[.string ByteArray.empty] xs.length).size = xs.length := size_madeCells _ _
  clear hx hT hbd hds hdl hdm hjl hi hz0 hz1 hz2
  go_enter Tryz.func109, Tryz.ntmps109
  go_wp2_with fail
  obtain ⟨W, hW, hC⟩ : ∃ W, W = w.alloc (.cells (madeCells #[.string ByteArray.empty] xs.length) 9) ∧ CpD w w.heap.size ds 0 W :=
    ⟨_, rfl, fun _ _ h => absurd h (by omega), fun j hj => by
      rw [HDL.out] at hj
      refine ⟨(madeCells #[.string ByteArray.empty] xs.length)[j]'(by rw [hms]; exact hj), ?_⟩
      rw [World.cell?_alloc_at _ _ _ _ rfl]
      exact Array.getElem?_eq_getElem (by rw [hms]; exact hj), fun j => World.frozen?_alloc_at _ _ _ _ rfl, ext_alloc (Below.refl _ _) _, by simp⟩
  rw [← hW]
  clear hW hms
  have HC := Lib.hid hC
  have hge : w.heap.size ≤ w.heap.size := Nat.le_refl _
  clear hC hmk
  go_loopw [13, 6, 7] (fun t u v wr => ∃ i : Nat, i ≤ xs.length ∧ t = .int .i64 i ∧ Hid (CpD w w.heap.size ds i wr)) (fun t _ _ _ => xs.length - (intOf t).toNat)
  case atStart => exact ⟨0, by omega, rfl, HC.out⟩
  case round =>
    obtain ⟨i, hi, rfl, HR⟩ := hrel
    clear HC
    by_cases hlt : i < xs.length
    · obtain ⟨b, off, rfl, hb, hcc⟩ := HX.out wr HR.out.2.2.2.1 (by omega)
      obtain ⟨x, hxi⟩ : ∃ x, xs[i]? = some x := ⟨_, List.getElem?_eq_getElem hlt⟩
      have cx := hcc i x hxi
      obtain ⟨b1, b2⟩ := HBD.out x (List.mem_of_getElem? hxi)
      have HD := Lib.hid (iDecimal_any x wr (by omega) (by omega) (HT.out wr HR.out.2.2.2.1))
      have HX2 := Lib.hid (HDS.out i x hxi)
      have hil : i < ds.length := by rw [HDL.out]; exact hlt
      generalize decB x = q at *
      have j0 : (0 : Int) ≤ (i : Int) := by omega
      have j1 : (i : Int) < (xs.length : Int) := by omega
      clear hcc hxi HJ
      go_wp2_with fail
      refine HD.out.mono ?_
      rintro e w3 ⟨rfl, hb3⟩
      have HR3 := Lib.hid (HR.out.next hb3)
      obtain ⟨v0, hv0⟩ := HR3.out.2.1 i hil
      have hf0 := HR3.out.2.2.1 i
      have HS := Lib.hid (CpD.set HR3.out hge hil HX2.out)
      clear hb3 hil
      go_wp2
      go_roundw
      case rel => exact ⟨i + 1, by omega, by go_num, HS.out⟩
      case measure => simp [intOf]; omega
    · have hil : i = xs.length := by omega
      subst hil
      have HBE := Lib.hid HR.out.2.2.2.1
      have HJ2 := Lib.hid (HJ.out w.heap.size wr (by rw [HDL.out]; exact HR.out))
      clear HJ HR HX HT
      go_wp2_with fail
      refine HJ2.out.mono ?_
      rintro e w4 ⟨rfl, hb4⟩
      go_wp2
      go_ret
      exact ⟨rfl, ext_trans HBE.out hb4⟩
end Go.Proofs.YtbcikkaoohihhaaGreatDoor
