/- Parts of the proof, merged: TextTW TextFW TextLW. No condition but those that each theorem names. -/
import Derived.Test.YtpnabggpdgjbmaaGreatDoorMgAS
import Derived.Test.YtpnabggpdgjbmaaGreatDoorMgAG
import Derived.Lib.Join
import Derived.Test.YtpnabggpdgjbmaaGreatDoorMgAC
import Derived.Test.YtpnabggpdgjbmaaGreatDoorMgAE
namespace Go.Proofs.YtpnabggpdgjbmaaGreatDoor
open Go.RowKit Go.Sort
theorem jtl_snoc (sep x : List UInt8) : ∀ r : List (List UInt8), Lib.joinTail sep (r ++ [x]) = Lib.joinTail sep r ++ (sep ++ x) := by
  intro r
  simp [Lib.joinTail]
theorem jn_snoc (l : List (List UInt8)) (x sep : List UInt8) : Lib.join (l ++ [x]) sep = if 0 < l.length then Lib.join l sep ++ sep ++ x else x := by
  cases l with
  | nil => simp [Lib.join_one]
  | cons a r =>
    rw [if_pos (by simp), List.cons_append, Lib.join_cons, Lib.join_cons, jtl_snoc]
    simp
theorem bap_data (a b : ByteArray) : (a ++ b).data.toList = a.data.toList ++ b.data.toList := by
  simp
def dcL (n : Int) : List UInt8 := (decB n).data.toList
/-- Decimals with commas between. -/
def jnB (xs : List Int) : ByteArray := ⟨(Lib.join (xs.map dcL) [44, 32]).toArray⟩
theorem jn_len {xs : List Int} (h : ∀ t ∈ xs, -1000000000 ≤ t ∧ t ≤ 1000000000) : ∀ k, k ≤ xs.length → (Lib.join ((xs.take k).map dcL) [44, 32]).length ≤ 23 * k
  | 0, _ => by simp [Lib.join_nil]
  | k + 1, hk => by
    have hx : xs[k]? = some (xs[k]'(by omega)) := List.getElem?_eq_getElem (by omega)
    have ih := jn_len h k (by omega)
    have hb := h _ (List.getElem_mem (show k < xs.length by omega))
    have hz := decB_size (n := xs[k]'(by omega)) (by omega) (by omega)
    have hq : (dcL (xs[k]'(by omega))).length = (decB (xs[k]'(by omega))).size := by unfold dcL; cases decB (xs[k]'(by omega)); rfl
    rw [List.take_add_one, hx, List.map_append]
    show (Lib.join (_ ++ [dcL _]) _).length ≤ _
    rw [jn_snoc]
    split
    · simp only [List.length_append, List.length_cons, List.length_nil]; omega
    · omega
theorem jnB_size {xs : List Int} (h : ∀ t ∈ xs, -1000000000 ≤ t ∧ t ≤ 1000000000) : (jnB xs).size ≤ 23 * xs.length := by
  have := jn_len h xs.length (Nat.le_refl _)
  rw [List.take_length] at this
  have e : (jnB xs).size = (Lib.join (xs.map dcL) [44, 32]).length := by unfold jnB; simp [ByteArray.size]
  omega
theorem tmO_jn (t : Int) (r : List Int) : ∀ k, k < r.length → (tmO (t :: r) (k + 2)).data.toList = ([91] ++ dcL t) ++ ([59, 32] ++ Lib.join ((r.take (k + 1)).map dcL) [44, 32])
  | 0, hk => by
    obtain ⟨y, s, rfl⟩ : ∃ y s, r = y :: s := by cases r with | nil => simp at hk | cons y s => exact ⟨y, s, rfl⟩
    simp [tmO, dcL, Lib.join_one]
  | k + 1, hk => by
    have ih := tmO_jn t r k (by omega)
    have hx : r[k + 1]? = some (r[k + 1]'hk) := List.getElem?_eq_getElem hk
    have e : tmO (t :: r) (k + 1 + 2) = (tmO (t :: r) (k + 2) ++ ({ data := #[44, 32] } : ByteArray)) ++ decB (r[k + 1]'hk) := by
      rw [show k + 1 + 2 = (k + 1) + 2 from rfl, tmO, if_neg (by omega)]
      simp only [List.getD, List.getElem?_cons_succ, hx, Option.getD_some]
    have ht : r.take (k + 1 + 1) = r.take (k + 1) ++ [r[k + 1]'hk] := by rw [List.take_add_one, hx]; rfl
    rw [e, bap_data, bap_data, ih, ht, List.map_append]
    show _ = ([91] ++ dcL t) ++ ([59, 32] ++ Lib.join (_ ++ [dcL _]) _)
    rw [jn_snoc, if_pos (by simp; omega)]
    simp [dcL]
theorem tmT_one (t : Int) : tmT [t] = (({ data := #[91] } : ByteArray) ++ decB t) ++ ({ data := #[93] } : ByteArray) := rfl
theorem tmT_more (t : Int) (r : List Int) (h : 0 < r.length) : tmT (t :: r) = ((({ data := #[91] } : ByteArray) ++ decB t) ++ (({ data := #[59, 32] } : ByteArray) ++ jnB r)) ++ ({ data := #[93] } : ByteArray) := by
  have e := tmO_jn t r (r.length - 1) (by omega)
  rw [show r.length - 1 + 2 = (t :: r).length by simp; omega, show r.length - 1 + 1 = r.length by omega, List.take_length] at e
  have q : tmO (t :: r) (t :: r).length = ((({ data := #[91] } : ByteArray) ++ decB t) ++ (({ data := #[59, 32] } : ByteArray) ++ jnB r)) := by
    apply ByteArray.ext
    apply Array.toList_inj.1
    rw [e, bap_data, bap_data, bap_data]
    simp [dcL, jnB]
  unfold tmT
  rw [q]
/-- What the texts of the numbers hold up to k. -/
def CpD (w : World) (h : Nat) (ds : List ByteArray) (k : Nat) (W : World) : Prop :=
  (∀ j d, j < k → ds[j]? = some d → W.cell? ⟨h, j, none⟩ = some (.string d)) ∧ (∀ j, j < ds.length → ∃ v, W.cell? ⟨h, j, none⟩ = some v) ∧ (∀ j, W.frozen? ⟨h, j, none⟩ = false) ∧ Below w.heap.size w W ∧ h < W.heap.size
section
variable {w W W' : World} {h : Nat} {ds : List ByteArray} {k : Nat}
theorem CpD.next (hc : CpD w h ds k W) (hb : Below W.heap.size W W') : CpD w h ds k W' := by
  obtain ⟨h1, h2, h3, h4, h5⟩ := hc
  exact ⟨fun j d hj hx => (hb.cell (p := ⟨h, j, none⟩) h5).trans (h1 j d hj hx), fun j hj => (h2 j hj).imp fun v hv => (hb.cell (p := ⟨h, j, none⟩) h5).trans hv, fun j => (hb.frozen (p := ⟨h, j, none⟩) h5).trans (h3 j), h4.trans (hb.mono h4.size), Nat.lt_of_lt_of_le h5 hb.size⟩
theorem CpD.set {d : ByteArray} (hc : CpD w h ds k W) (hw : w.heap.size ≤ h) (hk : k < ds.length) (hx : ds[k]? = some d) : CpD w h ds (k + 1) (W.setCell ⟨h, k, none⟩ (.string d)) := by
  obtain ⟨h1, h2, h3, h4, h5⟩ := hc
  obtain ⟨v0, hv0⟩ := h2 k hk
  refine ⟨fun j y hj hy => ?_, fun j hj => ?_, fun j => (World.frozen?_setCell _ _ _ _).trans (h3 j), h4.setCell hw _, by simpa using h5⟩
  · rcases Nat.lt_or_ge j k with g | g
    · exact (World.cell?_setCell_other _ _ _ _ (by simp <;> omega)).trans (h1 j y g hy)
    · obtain rfl : j = k := by omega
      obtain rfl := Option.some.inj (hx.symm.trans hy)
      exact World.cell?_setCell_same _ _ _ hv0
  · by_cases e : j = k
    · subst e; exact ⟨_, World.cell?_setCell_same _ _ _ hv0⟩
    · obtain ⟨u, hu⟩ := h2 j hj
      exact ⟨u, (World.cell?_setCell_other _ _ _ _ (by simp <;> omega)).trans hu⟩
end
theorem infoStrD : (Tryz.prog.info? 9).map (fun i => (i.zero, i.size, i.bytes)) = some (some (.string ByteArray.empty), 1, 16) := by kernel_rfl
set_option maxHeartbeats 2000000 in
theorem decimals_any (A : Option Addr) (c : Nat) (xs : List Int) (w : World) (hx : Rd (Value.int .i64) w w.heap.size A xs) (hl : xs.length ≤ 60) (hbd : ∀ t ∈ xs, -1000000000 ≤ t ∧ t ≤ 1000000000) (hT : Tab10 w) :
    Calls Tryz.prog 91 #[.slice A xs.length c, .string { data := #[44, 32] }] w fun e w' => e = .returned (.string (jnB xs)) ∧ Below w.heap.size w w' := by
  have HX : Hid (∀ W, Below w.heap.size w W → Rd (Value.int .i64) W W.heap.size A xs) := fun W hb => (hx.below hb).more hb.size
  have HT : Hid (∀ W, Below w.heap.size w W → Tab10 W) := fun W hb => hT.next hb
  have HBD := Lib.hid hbd
  have hjl := jn_len hbd xs.length (Nat.le_refl _)
  rw [List.take_length] at hjl
  obtain ⟨ds, hds⟩ : ∃ ds, xs.map decB = ds := ⟨_, rfl⟩
  have hdl : ds.length = xs.length := by rw [← hds, List.length_map]
  have hdm : xs.map dcL = ds.map (·.data.toList) := by rw [← hds, List.map_map]; rfl
  have HDS : Hid (∀ j x, xs[j]? = some x → ds[j]? = some (decB x)) := fun j x h => by rw [← hds, List.getElem?_map, h]; rfl
  have HDL := Lib.hid hdl
  have HJ : Hid (∀ (h : Nat) (W : World), CpD w h ds ds.length W → Calls Tryz.prog 131 #[.slice (some ⟨h, 0, none⟩) xs.length xs.length, .string { data := #[44, 32] }] W fun e w' => e = .returned (.string (jnB xs)) ∧ Below W.heap.size W w') := fun h W hc => by
    have k := Tryz.strings_Join h 0 xs.length ds { data := #[44, 32] } W (fun j y hy => by
      rw [Nat.zero_add]
      exact hc.1 j y (by have := (List.getElem?_eq_some_iff.1 hy).1; omega) hy) hc.2.2.2.2 (by first | omega | (simp; omega)) (by first | omega | simp | (simp; omega)) (by rw [← hdm]; exact Nat.le_trans hjl (by omega))
    rw [← hdm, hdl] at k
    exact k
  generalize jnB xs = R at *
  obtain ⟨i0, hi, hz0, hz1, hz2⟩ := info_parts infoStrD
  have hmk : ∀ W : World, (Instr.makeSlice 58 (.int .i64 (xs.length : Int)) (.int .i64 (xs.length : Int))).run Tryz.prog W = .ok (.slice (some ⟨W.heap.size, 0, none⟩) xs.length xs.length) (W.alloc (.cells (madeCells #[.string ByteArray.empty] xs.length) 9)) := fun W => by
    have h := run_make (P := Tryz.prog) W 58 9 i0 _ Tryz.underlying58 hi hz0 .i64 .i64 (xs.length : Int) (xs.length : Int) (by omega) (by omega) (by rw [hz2]; omega) (by omega)
    rw [hz1] at h
    simpa [Value.cells] using h
  have hms : (madeCells #[.string ByteArray.empty] xs.length).size = xs.length := size_madeCells _ _
  clear hx hT hbd hds hdl hdm hjl hi hz0 hz1 hz2
  go_enter Tryz.func91, Tryz.ntmps91
  go_wp2_with fail
  obtain ⟨W, hW, hC⟩ : ∃ W, W = w.alloc (.cells (madeCells #[.string ByteArray.empty] xs.length) 9) ∧ CpD w w.heap.size ds 0 W :=
    ⟨_, rfl, fun _ _ h => absurd h (by omega), fun j hj => by
      rw [HDL.out] at hj
      refine ⟨(madeCells #[.string ByteArray.empty] xs.length)[j]'(by rw [hms]; exact hj), ?_⟩
      rw [World.cell?_alloc_at _ _ _ _ rfl]
      exact Array.getElem?_eq_getElem (by rw [hms]; exact hj), fun j => World.frozen?_alloc_at _ _ _ _ rfl, ext_alloc (Below.refl _ _) _, by simp⟩
  rw [← hW]
  clear hW hms
  have HC := Lib.hid hC
  have hge : w.heap.size ≤ w.heap.size := Nat.le_refl _
  clear hC hmk
  go_loopw [13, 6, 7] (fun t u v wr => ∃ i : Nat, i ≤ xs.length ∧ t = .int .i64 i ∧ Hid (CpD w w.heap.size ds i wr)) (fun t _ _ _ => xs.length - (intOf t).toNat)
  case atStart => exact ⟨0, by omega, rfl, HC.out⟩
  case round =>
    obtain ⟨i, hi, rfl, HR⟩ := hrel
    clear HC
    by_cases hlt : i < xs.length
    · obtain ⟨b, off, rfl, hb, hcc⟩ := HX.out wr HR.out.2.2.2.1 (by omega)
      obtain ⟨x, hxi⟩ : ∃ x, xs[i]? = some x := ⟨_, List.getElem?_eq_getElem hlt⟩
      have cx := hcc i x hxi
      obtain ⟨b1, b2⟩ := HBD.out x (List.mem_of_getElem? hxi)
      have HD := Lib.hid (iDecimal_any x wr (by omega) (by omega) (HT.out wr HR.out.2.2.2.1))
      have HX2 := Lib.hid (HDS.out i x hxi)
      have hil : i < ds.length := by rw [HDL.out]; exact hlt
      generalize decB x = q at *
      have j0 : (0 : Int) ≤ (i : Int) := by omega
      have j1 : (i : Int) < (xs.length : Int) := by omega
      clear hcc hxi HJ
      go_wp2_with fail
      refine HD.out.mono ?_
      rintro e w3 ⟨rfl, hb3⟩
      have HR3 := Lib.hid (HR.out.next hb3)
      obtain ⟨v0, hv0⟩ := HR3.out.2.1 i hil
      have hf0 := HR3.out.2.2.1 i
      have HS := Lib.hid (CpD.set HR3.out hge hil HX2.out)
      clear hb3 hil
      go_wp2
      go_roundw
      case rel => exact ⟨i + 1, by omega, by go_num, HS.out⟩
      case measure => simp [intOf]; omega
    · have hil : i = xs.length := by omega
      subst hil
      have HBE := Lib.hid HR.out.2.2.2.1
      have HJ2 := Lib.hid (HJ.out w.heap.size wr (by rw [HDL.out]; exact HR.out))
      clear HJ HR HX HT
      go_wp2_with fail
      refine HJ2.out.mono ?_
      rintro e w4 ⟨rfl, hb4⟩
      go_wp2
      go_ret
      exact ⟨rfl, ext_trans HBE.out hb4⟩
end Go.Proofs.YtpnabggpdgjbmaaGreatDoor
namespace Go.Proofs.YtpnabggpdgjbmaaGreatDoor
open Go.RowKit Go.Sort
theorem ztF (d0 d1 : ByteArray) (h0 : d0.size ≤ 21) (h1 : d1.size ≤ 21) : (d0 ++ ({ data := #[47] } : ByteArray)).size ≤ 300 ∧ ((d0 ++ ({ data := #[47] } : ByteArray)) ++ d1).size ≤ 300 := by
  have l0 : ({ data := #[47] } : ByteArray).size = 1 := rfl
  simp only [appSize]
  omega
theorem ztS (d0 d1 d2 : ByteArray) (z0 : d0.size ≤ 21) (z1 : d1.size ≤ 21) (z2 : d2.size ≤ 21) : (({ data := #[40] } : ByteArray) ++ d0).size ≤ 300 ∧ ((({ data := #[40] } : ByteArray) ++ d0) ++ ({ data := #[43, 114] } : ByteArray)).size ≤ 300 ∧ (((({ data := #[40] } : ByteArray) ++ d0) ++ ({ data := #[43, 114] } : ByteArray)) ++ d1).size ≤ 300 ∧ ((((({ data := #[40] } : ByteArray) ++ d0) ++ ({ data := #[43, 114] } : ByteArray)) ++ d1) ++ ({ data := #[41, 47] } : ByteArray)).size ≤ 300 ∧ (((((({ data := #[40] } : ByteArray) ++ d0) ++ ({ data := #[43, 114] } : ByteArray)) ++ d1) ++ ({ data := #[41, 47] } : ByteArray)) ++ d2).size ≤ 300 := by
  have l0 : ({ data := #[40] } : ByteArray).size = 1 := rfl
  have l1 : ({ data := #[43, 114] } : ByteArray).size = 2 := rfl
  have l2 : ({ data := #[41, 47] } : ByteArray).size = 2 := rfl
  simp only [appSize]
  omega
theorem l02Text_any (n d : Int) (w : World) (n1 : -1000000000 ≤ n) (n2 : n ≤ 1000000000) (d1 : -1000000000 ≤ d) (d2 : d ≤ 1000000000) :
    Calls Tryz.prog 96 #[fracV n d] w fun e w' => e = .returned (.string (frT n d)) ∧ Below w.heap.size w w' := by
  have HA := Lib.hid (fun W : World => l01Dec_any n W (by omega) (by omega))
  have HB := Lib.hid (fun W : World => l01Dec_any d W (by omega) (by omega))
  have z0 := decB_size (n := n) (by omega) (by omega)
  have z1 := decB_size (n := d) (by omega) (by omega)
  have HE : Hid (frT n d = if d = 1 then decB n else (decB n ++ ({ data := #[47] } : ByteArray)) ++ decB d) := rfl
  generalize frT n d = R at *
  generalize decB n = a0 at *
  generalize decB d = a1 at *
  obtain ⟨t0, t1⟩ := ztF a0 a1 z0 z1
  unfold fracV
  have B0 := BoxV.new w #[.int .i64 n, .int .i64 d] 26
  have E0 := Lib.hid (ext1 w (.cells #[.int .i64 n, .int .i64 d] 26))
  by_cases hd : d = 1
  · subst hd
    simp only [if_true] at HE
    go_enter Tryz.func96, Tryz.ntmps96
    go_wp2_with fail
    refine (HA.out _).mono ?_
    rintro e w1 ⟨rfl, hb1⟩
    go_wp2
    go_ret
    rw [HE.out]
    exact ⟨rfl, ext_trans E0.out hb1⟩
  · have hd' : (d == 1) = false := beq_eq_false_iff_ne.2 hd
    rw [if_neg hd] at HE
    go_enter Tryz.func96, Tryz.ntmps96
    go_wp2_with fail
    generalize w.alloc (.cells #[.int .i64 n, .int .i64 d] 26) = W0 at *
    have k0 : ∀ x os, (grow (redrawn W0 x) os).cell? ⟨w.heap.size, 0, none⟩ = some (.int .i64 n) := cell_regrown (B0.at 0 _ rfl)
    have k1 : ∀ x os, (grow (redrawn W0 x) os).cell? ⟨w.heap.size, 1, none⟩ = some (.int .i64 d) := cell_regrown (B0.at 1 _ rfl)
    refine wp_region_quiet_below (by kernel_rfl) (by kernel_rfl) ?_
    repeat (first | go_big_quiet_step ((first | (with_reducible exact Calls.regrown_of (HA.out _)) | (with_reducible exact Calls.regrown_of (HB.out _)))) | quiet_step ((first | (with_reducible exact Calls.regrown_of (HA.out _)) | (with_reducible exact Calls.regrown_of (HB.out _)))))
    refine wpQuiet_nil ?_
    intro _ hw'
    obtain ⟨⟨dq, oq⟩, hw''⟩ := hw'
    subst hw''
    obtain ⟨w3, hW3⟩ : ∃ Wq, Wq = grow (redrawn W0 dq) oq := ⟨_, rfl⟩
    have hb3 : Below W0.heap.size W0 w3 := by rw [hW3]; exact below_regrown _ _ _
    rw [← hW3]
    clear hW3
    obtain ⟨hc3, hf3⟩ := bcell hb3
    have hy3 := hb3.size
    go_wp2
    go_ret
    rw [HE.out]
    exact ⟨rfl, ext_trans E0.out hb3⟩
theorem l07Txt_any (p d q : Int) (w : World) (p1 : -1000000000 ≤ p) (p2 : p ≤ 1000000000) (d1 : -1000000000 ≤ d) (d2 : d ≤ 1000000000) (q1 : -1000000000 ≤ q) (q2 : q ≤ 1000000000) :
    Calls Tryz.prog 98 #[surdV p d q] w fun e w' => e = .returned (.string (sdT p d q)) ∧ Below w.heap.size w w' := by
  have HA := Lib.hid (fun W : World => l01Dec_any p W (by omega) (by omega))
  have HB := Lib.hid (fun W : World => l01Dec_any d W (by omega) (by omega))
  have HC := Lib.hid (fun W : World => l01Dec_any q W (by omega) (by omega))
  have z0 := decB_size (n := p) (by omega) (by omega)
  have z1 := decB_size (n := d) (by omega) (by omega)
  have z2 := decB_size (n := q) (by omega) (by omega)
  unfold sdT
  generalize decB p = a0 at *
  generalize decB d = a1 at *
  generalize decB q = a2 at *
  obtain ⟨t0, t1, t2, t3, t4⟩ := ztS a0 a1 a2 z0 z1 z2
  have B0 := BoxV.new w #[.int .i64 p, .int .i64 d, .int .i64 q] 29
  have E0 := Lib.hid (ext1 w (.cells #[.int .i64 p, .int .i64 d, .int .i64 q] 29))
  go_enter Tryz.func98, Tryz.ntmps98
  go_wp2_with fail
  generalize w.alloc (.cells #[.int .i64 p, .int .i64 d, .int .i64 q] 29) = W0 at *
  have k0 : ∀ x os, (grow (redrawn W0 x) os).cell? ⟨w.heap.size, 0, none⟩ = some (.int .i64 p) := cell_regrown (B0.at 0 _ rfl)
  have k1 : ∀ x os, (grow (redrawn W0 x) os).cell? ⟨w.heap.size, 1, none⟩ = some (.int .i64 d) := cell_regrown (B0.at 1 _ rfl)
  have k2 : ∀ x os, (grow (redrawn W0 x) os).cell? ⟨w.heap.size, 2, none⟩ = some (.int .i64 q) := cell_regrown (B0.at 2 _ rfl)
  refine wp_region_quiet_below (by kernel_rfl) (by kernel_rfl) ?_
  repeat (first | go_big_quiet_step ((first | (with_reducible exact Calls.regrown_of (HA.out _)) | (with_reducible exact Calls.regrown_of (HB.out _)) | (with_reducible exact Calls.regrown_of (HC.out _)))) | quiet_step ((first | (with_reducible exact Calls.regrown_of (HA.out _)) | (with_reducible exact Calls.regrown_of (HB.out _)) | (with_reducible exact Calls.regrown_of (HC.out _)))))
  refine wpQuiet_nil ?_
  intro _ hw'
  obtain ⟨⟨dq, oq⟩, hw''⟩ := hw'
  subst hw''
  obtain ⟨w3, hW3⟩ : ∃ Wq, Wq = grow (redrawn W0 dq) oq := ⟨_, rfl⟩
  have hb3 : Below W0.heap.size W0 w3 := by rw [hW3]; exact below_regrown _ _ _
  rw [← hW3]
  clear hW3
  obtain ⟨hc3, hf3⟩ := bcell hb3
  have hy3 := hb3.size
  go_wp2
  go_ret
  exact ⟨rfl, ext_trans E0.out hb3⟩
theorem iFractionText_any (n d : Int) (w : World) (hT : Tab10 w) :
    Calls Tryz.prog 46 #[fracV n d] w fun e w' => e = .returned (.string (if fracOk n d = true then frT n d else ⟨#[]⟩)) ∧ Below w.heap.size w w' := by
  have HT : Hid (∀ W, Below w.heap.size w W → Tab10 W) := fun W hb => hT.next hb
  have HV := Lib.hid (fun W : World => ValidFraction_any n d W)
  have B0 := Lib.hid (BoxV.new w #[.int .i64 n, .int .i64 d] 26)
  have E0 := Lib.hid (ext1 w (.cells #[.int .i64 n, .int .i64 d] 26))
  have y0 := B0.out.at 0 _ rfl
  have y1 := B0.out.at 1 _ rfl
  clear hT
  cases hv : fracOk n d
  · rw [hv] at HV
    clear hv
    simp only [Bool.false_eq_true, if_false]
    unfold fracV at *
    go_enter Tryz.func46, Tryz.ntmps46
    go_wp2_with fail
    generalize w.alloc (.cells #[.int .i64 n, .int .i64 d] 26) = W0 at *
    refine (HV.out _).mono ?_
    rintro e w1 ⟨rfl, hb1⟩
    go_wp2
    go_ret
    exact ⟨rfl, ext_trans E0.out hb1⟩
  · obtain ⟨d1, d2, n1, n2, _⟩ := fracOk_true.1 hv
    rw [hv] at HV
    clear hv
    simp only [if_true]
    have HA : Hid (∀ W, Below w.heap.size w W → Calls Tryz.prog 90 #[.int .i64 n] W fun e w' => e = .returned (.string (decB n)) ∧ Below W.heap.size W w') := fun W hb => iDecimal_any n W (by omega) (by omega) (HT.out W hb)
    have HB : Hid (∀ W, Below w.heap.size w W → Calls Tryz.prog 90 #[.int .i64 d] W fun e w' => e = .returned (.string (decB d)) ∧ Below W.heap.size W w') := fun W hb => iDecimal_any d W (by omega) (by omega) (HT.out W hb)
    have z0 := decB_size (n := n) (by omega) (by omega)
    have z1 := decB_size (n := d) (by omega) (by omega)
    have HE : Hid (frT n d = if d = 1 then decB n else (decB n ++ ({ data := #[47] } : ByteArray)) ++ decB d) := rfl
    generalize frT n d = R at *
    generalize decB n = a0 at *
    generalize decB d = a1 at *
    obtain ⟨t0, t1⟩ := ztF a0 a1 z0 z1
    clear HT
    unfold fracV at *
    by_cases hd : d = 1
    · subst hd
      simp only [if_true] at HE
      go_enter Tryz.func46, Tryz.ntmps46
      go_wp2_with fail
      generalize w.alloc (.cells #[.int .i64 n, .int .i64 1] 26) = W0 at *
      refine (HV.out _).mono ?_
      rintro e w1 ⟨rfl, hb1⟩
      have B1 := B0.out.next hb1
      have x0 := B1.at 0 _ rfl
      have x1 := B1.at 1 _ rfl
      have E1 := Lib.hid (ext_trans E0.out hb1)
      go_wp2_with fail
      refine (HA.out _ E1.out).mono ?_
      rintro e w2 ⟨rfl, hb2⟩
      go_wp2
      go_ret
      rw [HE.out]
      exact ⟨rfl, ext_trans E1.out hb2⟩
    · have hd' : (d == 1) = false := beq_eq_false_iff_ne.2 hd
      rw [if_neg hd] at HE
      go_enter Tryz.func46, Tryz.ntmps46
      go_wp2_with fail
      generalize w.alloc (.cells #[.int .i64 n, .int .i64 d] 26) = W0 at *
      refine (HV.out _).mono ?_
      rintro e w1 ⟨rfl, hb1⟩
      have B1 := B0.out.next hb1
      have x0 := B1.at 0 _ rfl
      have x1 := B1.at 1 _ rfl
      have E1 := Lib.hid (ext_trans E0.out hb1)
      have HA2 := Lib.hid (fun x os => HA.out (grow (redrawn w1 x) os) (ext_trans E1.out (below_regrown w1 x os)))
      have HB2 := Lib.hid (fun x os => HB.out (grow (redrawn w1 x) os) (ext_trans E1.out (below_regrown w1 x os)))
      have k0 : ∀ x os, (grow (redrawn w1 x) os).cell? ⟨w.heap.size, 0, none⟩ = some (.int .i64 n) := cell_regrown x0
      have k1 : ∀ x os, (grow (redrawn w1 x) os).cell? ⟨w.heap.size, 1, none⟩ = some (.int .i64 d) := cell_regrown x1
      go_wp2_with fail
      refine wp_region_quiet_below (by kernel_rfl) (by kernel_rfl) ?_
      repeat (first | go_big_quiet_step ((first | (with_reducible exact Calls.regrown_of (HA2.out _ _)) | (with_reducible exact Calls.regrown_of (HB2.out _ _)))) | quiet_step ((first | (with_reducible exact Calls.regrown_of (HA2.out _ _)) | (with_reducible exact Calls.regrown_of (HB2.out _ _)))))
      refine wpQuiet_nil ?_
      intro _ hw'
      obtain ⟨⟨dq, oq⟩, hw''⟩ := hw'
      subst hw''
      obtain ⟨w3, hW3⟩ : ∃ Wq, Wq = grow (redrawn w1 dq) oq := ⟨_, rfl⟩
      have hb3 : Below w1.heap.size w1 w3 := by rw [hW3]; exact below_regrown _ _ _
      rw [← hW3]
      clear hW3
      obtain ⟨hc3, hf3⟩ := bcell hb3
      have hy3 := hb3.size
      go_wp2
      go_ret
      rw [HE.out]
      exact ⟨rfl, ext_trans E1.out hb3⟩
theorem iSurdText_any (p d q : Int) (w : World) (hT : Tab10 w) (hok : surdB p d q = true) :
    Calls Tryz.prog 48 #[surdV p d q] w fun e w' => e = .returned (.string (sdT p d q)) ∧ Below w.heap.size w w' := by
  have HT : Hid (∀ W, Below w.heap.size w W → Tab10 W) := fun W hb => hT.next hb
  have HV := Lib.hid (fun W : World => ValidSurd_any p d q W)
  have B0 := Lib.hid (BoxV.new w #[.int .i64 p, .int .i64 d, .int .i64 q] 29)
  have E0 := Lib.hid (ext1 w (.cells #[.int .i64 p, .int .i64 d, .int .i64 q] 29))
  have y0 := B0.out.at 0 _ rfl
  have y1 := B0.out.at 1 _ rfl
  have y2 := B0.out.at 2 _ rfl
  clear hT
  obtain ⟨⟨d1, d2⟩, _, ⟨p1, p2⟩, ⟨q1, q2⟩, _⟩ := surdB_true.1 hok
  rw [hok] at HV
  clear hok
  have HA : Hid (∀ W, Below w.heap.size w W → Calls Tryz.prog 90 #[.int .i64 p] W fun e w' => e = .returned (.string (decB p)) ∧ Below W.heap.size W w') := fun W hb => iDecimal_any p W (by omega) (by omega) (HT.out W hb)
  have HB : Hid (∀ W, Below w.heap.size w W → Calls Tryz.prog 90 #[.int .i64 d] W fun e w' => e = .returned (.string (decB d)) ∧ Below W.heap.size W w') := fun W hb => iDecimal_any d W (by omega) (by omega) (HT.out W hb)
  have HC : Hid (∀ W, Below w.heap.size w W → Calls Tryz.prog 90 #[.int .i64 q] W fun e w' => e = .returned (.string (decB q)) ∧ Below W.heap.size W w') := fun W hb => iDecimal_any q W (by omega) (by omega) (HT.out W hb)
  have z0 := decB_size (n := p) (by omega) (by omega)
  have z1 := decB_size (n := d) (by omega) (by omega)
  have z2 := decB_size (n := q) (by omega) (by omega)
  unfold sdT
  generalize decB p = a0 at *
  generalize decB d = a1 at *
  generalize decB q = a2 at *
  obtain ⟨t0, t1, t2, t3, t4⟩ := ztS a0 a1 a2 z0 z1 z2
  clear HT
  unfold surdV at *
  go_enter Tryz.func48, Tryz.ntmps48
  go_wp2_with fail
  generalize w.alloc (.cells #[.int .i64 p, .int .i64 d, .int .i64 q] 29) = W0 at *
  refine (HV.out _).mono ?_
  rintro e w1 ⟨rfl, hb1⟩
  have B1 := B0.out.next hb1
  have E1 := Lib.hid (ext_trans E0.out hb1)
  have HA2 := Lib.hid (fun x os => HA.out (grow (redrawn w1 x) os) (ext_trans E1.out (below_regrown w1 x os)))
  have HB2 := Lib.hid (fun x os => HB.out (grow (redrawn w1 x) os) (ext_trans E1.out (below_regrown w1 x os)))
  have HC2 := Lib.hid (fun x os => HC.out (grow (redrawn w1 x) os) (ext_trans E1.out (below_regrown w1 x os)))
  have k0 : ∀ x os, (grow (redrawn w1 x) os).cell? ⟨w.heap.size, 0, none⟩ = some (.int .i64 p) := cell_regrown (B1.at 0 _ rfl)
  have k1 : ∀ x os, (grow (redrawn w1 x) os).cell? ⟨w.heap.size, 1, none⟩ = some (.int .i64 d) := cell_regrown (B1.at 1 _ rfl)
  have k2 : ∀ x os, (grow (redrawn w1 x) os).cell? ⟨w.heap.size, 2, none⟩ = some (.int .i64 q) := cell_regrown (B1.at 2 _ rfl)
  go_wp2_with fail
  refine wp_region_quiet_below (by kernel_rfl) (by kernel_rfl) ?_
  repeat (first | go_big_quiet_step ((first | (with_reducible exact Calls.regrown_of (HA2.out _ _)) | (with_reducible exact Calls.regrown_of (HB2.out _ _)) | (with_reducible exact Calls.regrown_of (HC2.out _ _)))) | quiet_step ((first | (with_reducible exact Calls.regrown_of (HA2.out _ _)) | (with_reducible exact Calls.regrown_of (HB2.out _ _)) | (with_reducible exact Calls.regrown_of (HC2.out _ _)))))
  refine wpQuiet_nil ?_
  intro _ hw'
  obtain ⟨⟨dq, oq⟩, hw''⟩ := hw'
  subst hw''
  obtain ⟨w3, hW3⟩ : ∃ Wq, Wq = grow (redrawn w1 dq) oq := ⟨_, rfl⟩
  have hb3 : Below w1.heap.size w1 w3 := by rw [hW3]; exact below_regrown _ _ _
  rw [← hW3]
  clear hW3
  obtain ⟨hc3, hf3⟩ := bcell hb3
  have hy3 := hb3.size
  go_wp2
  go_ret
  exact ⟨rfl, ext_trans E1.out hb3⟩
end Go.Proofs.YtpnabggpdgjbmaaGreatDoor
namespace Go.Proofs.YtpnabggpdgjbmaaGreatDoor
open Go.RowKit Go.Sort
theorem tmO_le {ts : List Int} (h : ∀ t ∈ ts, -1000000000 ≤ t ∧ t ≤ 1000000000) (hl : ts.length ≤ 60) (k : Nat) (hk : k ≤ ts.length) : (tmO ts k).size ≤ 1400 := by
  have := tmO_size h k hk
  omega
theorem tmO_one {ts : List Int} {t : Int} (h : ts[0]? = some t) : tmO ts 1 = ({ data := #[91] } : ByteArray) ++ decB t := by
  unfold tmO
  simp only [List.getD, h, Option.getD_some]
theorem tmO_next {ts : List Int} {k : Nat} {t : Int} (hk : 1 ≤ k) (h : ts[k]? = some t) : tmO ts (k + 1) = (tmO ts k ++ (if k = 1 then ({ data := #[59, 32] } : ByteArray) else ({ data := #[44, 32] } : ByteArray))) ++ decB t := by
  obtain ⟨m, rfl⟩ : ∃ m, k = m + 1 := ⟨k - 1, by omega⟩
  rw [show m + 1 + 1 = m + 2 from rfl, tmO]
  simp only [List.getD, h, Option.getD_some]
  congr 2
  by_cases h0 : m = 0
  · rw [if_pos h0, if_pos (by omega)]
  · rw [if_neg h0, if_neg (by omega)]
theorem ztT (a s d : ByteArray) (h1 : a.size ≤ 1400) (h2 : s.size = 2) (h3 : d.size ≤ 21) : (a ++ s).size ≤ 1500 ∧ ((a ++ s) ++ d).size ≤ 1500 := by
  simp only [appSize]; omega
set_option maxHeartbeats 2000000 in
theorem l03Text_any (A : Option Addr) (c : Nat) (xs : List Int) (w : World) (hx : Rd (Value.int .i64) w w.heap.size A xs) (hl : xs.length ≤ 60) (h0 : 1 ≤ xs.length) (hbd : ∀ t ∈ xs, -1000000000 ≤ t ∧ t ≤ 1000000000) :
    Calls Tryz.prog 97 #[.slice A xs.length c] w fun e w' => e = .returned (.string (tmT xs)) ∧ Below w.heap.size w w' := by
  obtain ⟨b, off, rfl, hb, hc⟩ := hx (by omega)
  have HX : Hid (∀ W, Below w.heap.size w W → ∀ j x, xs[j]? = some x → W.cell? ⟨b, off + j, none⟩ = some (.int .i64 x)) := fun W hbW j x hj => (hbW.cell (p := ⟨b, off + j, none⟩) hb).trans (hc j x hj)
  have HBD := Lib.hid hbd
  have HTO : Hid (∀ k, k ≤ xs.length → (tmO xs k).size ≤ 1400) := fun k hk => tmO_le hbd hl k hk
  have HE : Hid (tmT xs = tmO xs xs.length ++ ({ data := #[93] } : ByteArray)) := rfl
  obtain ⟨x0, hx0⟩ : ∃ x, xs[0]? = some x := ⟨_, List.getElem?_eq_getElem (by omega)⟩
  have H1 := Lib.hid (tmO_one hx0)
  obtain ⟨b1, b2⟩ := hbd x0 (List.mem_of_getElem? hx0)
  have HD0 := Lib.hid (l01Dec_any x0 w (by omega) (by omega))
  have z0 := decB_size (n := x0) (by omega) (by omega)
  have c0 : w.cell? ⟨b, off, none⟩ = some (.int .i64 x0) := hc 0 x0 hx0
  have t0 : (({ data := #[91] } : ByteArray) ++ decB x0).size ≤ 1500 := by
    rw [appSize, show ({ data := #[91] } : ByteArray).size = 1 from rfl]; omega
  have n0 : (0 : Int) < (xs.length : Int) := by omega
  generalize tmT xs = R at *
  generalize decB x0 = a0 at *
  clear hx hbd hc hx0
  go_enter Tryz.func97, Tryz.ntmps97
  go_wp2_with fail
  refine HD0.out.mono ?_
  rintro e w1 ⟨rfl, hb1⟩
  have HB1 := Lib.hid hb1
  clear hb1 HD0
  go_wp2_with fail
  rw [← H1.out]
  clear H1 t0 c0 z0 b1 b2
  go_loopw [3, 4] (fun s t wr => ∃ k : Nat, 1 ≤ k ∧ k ≤ xs.length ∧ t = .int .i64 k ∧ s = .string (tmO xs k) ∧ Hid (Below w.heap.size w wr)) (fun _ t _ => xs.length - (intOf t).toNat)
  case atStart => exact ⟨1, by omega, by omega, rfl, rfl, HB1.out⟩
  case round =>
    obtain ⟨k, hk1, hk, rfl, rfl, HR⟩ := hrel
    clear HB1
    by_cases hlt : k < xs.length
    · obtain ⟨x, hxi⟩ : ∃ x, xs[k]? = some x := ⟨_, List.getElem?_eq_getElem hlt⟩
      obtain ⟨b1, b2⟩ := HBD.out x (List.mem_of_getElem? hxi)
      have cx := HX.out wr HR.out k x hxi
      have HD := Lib.hid (l01Dec_any x wr (by omega) (by omega))
      have z0 := decB_size (n := x) (by omega) (by omega)
      have HN := Lib.hid (tmO_next hk1 hxi)
      have zz := HTO.out k hk
      generalize tmO xs k = T0 at *
      generalize decB x = d0 at *
      have j0 : (0 : Int) ≤ (k : Int) := by omega
      have j1 : (k : Int) < (xs.length : Int) := by omega
      by_cases h1 : k = 1
      · have h1' : ((k : Int) == 1) = true := by simp [h1]
        rw [if_pos h1] at HN
        obtain ⟨t0, t1⟩ := ztT T0 { data := #[59, 32] } d0 zz rfl z0
        clear h1
        go_wp2_with fail
        refine HD.out.mono ?_
        rintro e w3 ⟨rfl, hb3⟩
        have HR3 := Lib.hid (ext_trans HR.out hb3)
        clear hb3 HD
        go_wp2
        go_roundw
        case rel => exact ⟨k + 1, by omega, by omega, by go_num, by rw [HN.out], HR3.out⟩
        case measure => simp [intOf]; omega
      · have h1' : ((k : Int) == 1) = false := beq_eq_false_iff_ne.2 (by omega)
        rw [if_neg h1] at HN
        obtain ⟨t0, t1⟩ := ztT T0 { data := #[44, 32] } d0 zz rfl z0
        clear h1
        go_wp2_with fail
        refine HD.out.mono ?_
        rintro e w3 ⟨rfl, hb3⟩
        have HR3 := Lib.hid (ext_trans HR.out hb3)
        clear hb3 HD
        go_wp2
        go_roundw
        case rel => exact ⟨k + 1, by omega, by omega, by go_num, by rw [HN.out], HR3.out⟩
        case measure => simp [intOf]; omega
    · have hil : k = xs.length := by omega
      subst hil
      have zz := HTO.out xs.length (by omega)
      have HBE := Lib.hid HR.out
      have t0 : (tmO xs xs.length ++ ({ data := #[93] } : ByteArray)).size ≤ 1500 := by
        rw [appSize, show ({ data := #[93] } : ByteArray).size = 1 from rfl]; omega
      generalize tmO xs xs.length = T0 at *
      go_wp2
      go_ret
      rw [HE.out]
      exact ⟨rfl, HBE.out⟩
set_option maxHeartbeats 2000000 in
theorem iTermsText_any (A : Option Addr) (c : Nat) (xs : List Int) (w : World) (hx : RdC w w.heap.size A c xs) (hl : xs.length ≤ 60) (h0 : 1 ≤ xs.length) (hbd : ∀ t ∈ xs, -1000000000 ≤ t ∧ t ≤ 1000000000) (hv : termsB xs = true) (hT : Tab10 w) :
    Calls Tryz.prog 47 #[.slice A xs.length c] w fun e w' => e = .returned (.string (tmT xs)) ∧ Below w.heap.size w w' := by
  obtain ⟨N, hN⟩ : ∃ N, xs.length = N := ⟨_, rfl⟩
  have HV : Hid (Calls Tryz.prog 77 #[.slice A N c] w fun e w' => e = .returned (.bool true) ∧ w = w') := by
    have := ValidTerms_any A c xs w hx (by unfold maxLen; omega)
    rwa [hv, hN] at this
  rw [hN]
  obtain ⟨hx, hc1, hc2⟩ := hx
  rw [hN] at hc1
  obtain ⟨b, off, rfl, hb, hc⟩ := hx (by omega)
  obtain ⟨x0, r, rfl⟩ : ∃ t r, xs = t :: r := by cases xs with | nil => simp at h0 | cons t r => exact ⟨t, r, rfl⟩
  obtain ⟨b1, b2⟩ := hbd x0 (by simp)
  have HD0 := Lib.hid (iDecimal_any x0 w (by omega) (by omega) hT)
  have z0 := decB_size (n := x0) (by omega) (by omega)
  have c0 : w.cell? ⟨b, off, none⟩ = some (.int .i64 x0) := hc 0 x0 rfl
  have HRR : Hid (∀ W, Below w.heap.size w W → Rd (Value.int .i64) W W.heap.size (some ⟨b, off + 1, none⟩) r) := fun W hbW _ => ⟨b, off + 1, rfl, Nat.lt_of_lt_of_le hb hbW.size, fun j x hj => by
    have := hc (j + 1) x (by simpa using hj)
    rw [show off + 1 + j = off + (j + 1) by omega]
    exact (hbW.cell (p := ⟨b, off + (j + 1), none⟩) hb).trans this⟩
  have hrb : ∀ t ∈ r, -1000000000 ≤ t ∧ t ≤ 1000000000 := fun t ht => hbd t (List.mem_cons_of_mem _ ht)
  have HJ : Hid (∀ W C, Below w.heap.size w W → Calls Tryz.prog 91 #[.slice (some ⟨b, off + 1, none⟩) r.length C, .string { data := #[44, 32] }] W fun e w' => e = .returned (.string (jnB r)) ∧ Below W.heap.size W w') := fun W C hbW => decimals_any _ C r W (HRR.out W hbW) (by simp at hl; omega) hrb (hT.next hbW)
  have zj : (jnB r).size ≤ 1400 := by have := jnB_size hrb; simp at hl; omega
  have hNn : N = r.length + 1 := by simpa using hN.symm
  have HE1 : Hid (r.length = 0 → tmT (x0 :: r) = (({ data := #[91] } : ByteArray) ++ decB x0) ++ ({ data := #[93] } : ByteArray)) := fun h => by
    obtain rfl := List.eq_nil_of_length_eq_zero h
    rfl
  have HE2 : Hid (0 < r.length → tmT (x0 :: r) = ((({ data := #[91] } : ByteArray) ++ decB x0) ++ (({ data := #[59, 32] } : ByteArray) ++ jnB r)) ++ ({ data := #[93] } : ByteArray)) := fun h => tmT_more x0 r h
  clear hN h0 hl
  generalize tmT (x0 :: r) = R at *
  generalize decB x0 = a0 at *
  generalize jnB r = J at *
  generalize r.length = n at *
  clear hx hbd hc hT hv HRR hrb
  have hc1 : N ≤ c := by first | assumption | omega
  have t0 : (({ data := #[91] } : ByteArray) ++ a0).size ≤ 2000 := by
    rw [appSize, show ({ data := #[91] } : ByteArray).size = 1 from rfl]; omega
  have t1 : ((({ data := #[91] } : ByteArray) ++ a0) ++ ({ data := #[93] } : ByteArray)).size ≤ 2000 := by
    rw [appSize, appSize, show ({ data := #[91] } : ByteArray).size = 1 from rfl, show ({ data := #[93] } : ByteArray).size = 1 from rfl]; omega
  have t2 : (({ data := #[59, 32] } : ByteArray) ++ J).size ≤ 2000 := by
    rw [appSize, show ({ data := #[59, 32] } : ByteArray).size = 2 from rfl]; omega
  have t3 : ((({ data := #[91] } : ByteArray) ++ a0) ++ (({ data := #[59, 32] } : ByteArray) ++ J)).size ≤ 2000 := by
    rw [appSize, appSize, appSize, show ({ data := #[91] } : ByteArray).size = 1 from rfl, show ({ data := #[59, 32] } : ByteArray).size = 2 from rfl]; omega
  have t4 : (((({ data := #[91] } : ByteArray) ++ a0) ++ (({ data := #[59, 32] } : ByteArray) ++ J)) ++ ({ data := #[93] } : ByteArray)).size ≤ 2000 := by
    rw [appSize, appSize, appSize, appSize, show ({ data := #[91] } : ByteArray).size = 1 from rfl, show ({ data := #[59, 32] } : ByteArray).size = 2 from rfl, show ({ data := #[93] } : ByteArray).size = 1 from rfl]; omega
  have hNi : (0 : Int) < (N : Int) := by omega
  have HJ2 : Hid (∀ W C, Below w.heap.size w W → Calls Tryz.prog 91 #[.slice (some ⟨b, off + 1, none⟩) (N - 1) C, .string { data := #[44, 32] }] W fun e w' => e = .returned (.string J) ∧ Below W.heap.size W w') := fun W C hbW => by
    rw [show N - 1 = n by omega]; exact HJ.out W C hbW
  clear HJ
  rcases Nat.lt_or_ge 0 n with g | g
  · have HE := Lib.hid (HE2.out g)
    have g1 : (1 : Int) < (N : Int) := by omega
    have g2 : (1 : Int) ≤ (N : Int) := by omega
    clear HE1 HE2 hNn
    go_enter Tryz.func47, Tryz.ntmps47
    go_wp2_with fail
    refine HV.out.mono ?_
    rintro e w1 ⟨rfl, rfl⟩
    go_wp2_with fail
    refine HD0.out.mono ?_
    rintro e w2 ⟨rfl, hb2⟩
    have HB2 := Lib.hid hb2
    clear hb2
    go_wp2_with fail
    refine (HJ2.out w2 _ HB2.out).mono ?_
    rintro e w3 ⟨rfl, hb3⟩
    go_wp2
    go_ret
    rw [HE.out]
    exact ⟨rfl, ext_trans HB2.out hb3⟩
  · have HE := Lib.hid (HE1.out (by omega))
    have g1 : ¬ (1 : Int) < (N : Int) := by omega
    clear HE1 HE2 hNn
    go_enter Tryz.func47, Tryz.ntmps47
    go_wp2_with fail
    refine HV.out.mono ?_
    rintro e w1 ⟨rfl, rfl⟩
    go_wp2_with fail
    refine HD0.out.mono ?_
    rintro e w2 ⟨rfl, hb2⟩
    go_wp2
    go_ret
    rw [HE.out]
    exact ⟨rfl, hb2⟩
end Go.Proofs.YtpnabggpdgjbmaaGreatDoor
