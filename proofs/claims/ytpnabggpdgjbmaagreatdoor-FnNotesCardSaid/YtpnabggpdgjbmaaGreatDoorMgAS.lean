/- Parts of the proof, merged: BytRW DecNP DecNW TextP. No condition but those that each theorem names. -/
import Derived.Test.YtpnabggpdgjbmaaGreatDoorMgAL
import Derived.Test.YtpnabggpdgjbmaaGreatDoorMgAM
import Derived.Test.YtpnabggpdgjbmaaGreatDoorMgAB
import Derived.ArgAppend
import Derived.Deep.DeepMust
import Derived.Lib.ItoaNum
import Derived.Lib.ItoaLen
import Derived.Lib.ItoaMem
import Derived.Test.YtpnabggpdgjbmaaGreatDoorShelf
import Derived.Test.YtpnabggpdgjbmaaGreatDoorMgAC
import Derived.Lib.AppendIntMem
import Derived.Test.YtpnabggpdgjbmaaGreatDoorMgAE
namespace Go.Proofs.YtpnabggpdgjbmaaGreatDoor
open Go.RowKit Go.Sort
/-- A row of bytes of one's own, no cell of which is frozen. -/
structure BR (base : Nat) (xs : List Int) (g cap : Nat) (W : World) : Prop where
  low : base ≤ g
  lt : g < W.heap.size
  le : xs.length ≤ cap
  max : cap ≤ maxLen
  byte : ∀ x ∈ xs, 0 ≤ x ∧ x ≤ 255
  cells : ∀ j x, xs[j]? = some x → W.cell? ⟨g, j, none⟩ = some (.int .u8 x)
  there : ∀ j, j < cap → (W.cell? ⟨g, j, none⟩).isSome = true ∧ W.frozen? ⟨g, j, none⟩ = false
theorem grown_setCells (g : Nat) : ∀ (vs : List Value) (o : Nat) (w : World), w.grownBy (w.setCells g o vs) (some g)
  | [], _, _ => ⟨rfl, rfl, rfl, Nat.le_refl _, fun _ _ _ => rfl⟩
  | v :: vs, o, w => by
    have h := grown_setCells g vs (o + 1) (w.setCell ⟨g, o, none⟩ v)
    refine ⟨h.os, h.tape, h.output, by simpa [World.setCells] using h.size, fun k hk hn => ?_⟩
    have h2 := h.block k (by simpa using hk) hn
    refine h2.trans (heap_setCell_other w ⟨g, o, none⟩ k v (fun e => hn ?_))
    rw [show k = g from e]
theorem frozen_setCells (g : Nat) : ∀ (vs : List Value) (o : Nat) (w : World) (a : Addr), (w.setCells g o vs).frozen? a = w.frozen? a
  | [], _, _, _ => rfl
  | v :: vs, o, w, a => (frozen_setCells g vs (o + 1) (w.setCell ⟨g, o, none⟩ v) a).trans (World.frozen?_setCell _ _ _ _)
theorem some_setCells (g : Nat) : ∀ (vs : List Value) (o : Nat) (w : World) (a : Addr), (w.cell? a).isSome = true → ((w.setCells g o vs).cell? a).isSome = true
  | [], _, _, _, h => h
  | v :: vs, o, w, a, h => some_setCells g vs (o + 1) (w.setCell ⟨g, o, none⟩ v) a (by
      by_cases e : a = ⟨g, o, none⟩
      · subst e
        obtain ⟨u, hu⟩ := Option.isSome_iff_exists.1 h
        rw [World.cell?_setCell_same _ _ _ hu]; rfl
      · rw [World.cell?_setCell_other _ _ _ _ (fun e2 => e e2.symm)]; exact h)
section
variable {base g cap : Nat} {xs : List Int} {W W' : World}
theorem BR.rd (h : BR base xs g cap W) (m : Nat) : Rd (Value.int .u8) W W.heap.size (some ⟨g, 0, none⟩) (xs.take m) := fun _ => ⟨g, 0, rfl, h.lt, fun j x hx => by
  rw [Nat.zero_add]
  rw [List.getElem?_take] at hx
  split at hx
  · exact h.cells j x hx
  · cases hx⟩
theorem BR.cut (h : BR base xs g cap W) (m : Nat) : BR base (xs.take m) g cap W :=
  ⟨h.low, h.lt, Nat.le_trans (by rw [List.length_take]; omega) h.le, h.max, fun x hx => h.byte x (List.mem_of_mem_take hx), (fun j x hx => by
    rw [List.getElem?_take] at hx
    split at hx
    · exact h.cells j x hx
    · cases hx), h.there⟩
theorem BR.keep {s : Nat} (h : BR base xs g cap W) (k : Keep s W W') (hs : s ≠ g) : BR base xs g cap W' :=
  ⟨h.low, Nat.lt_of_lt_of_le h.lt k.2.1, h.le, h.max, h.byte, fun j x hx => (k.cell (fun e => hs e.symm) h.lt).trans (h.cells j x hx), fun j hj => by
    rw [k.cell (o := j) (fun e => hs e.symm) h.lt, k.frozen (o := j) (fun e => hs e.symm) h.lt]; exact h.there j hj⟩
theorem BR.next (h : BR base xs g cap W) (hb : Below W.heap.size W W') : BR base xs g cap W' :=
  ⟨h.low, Nat.lt_of_lt_of_le h.lt hb.size, h.le, h.max, h.byte, fun j x hx => (hb.cell (p := ⟨g, j, none⟩) h.lt).trans (h.cells j x hx), fun j hj => by
    rw [hb.cell (p := ⟨g, j, none⟩) h.lt, hb.frozen (p := ⟨g, j, none⟩) h.lt]; exact h.there j hj⟩
theorem BR.set (h : BR base xs g cap W) {k : Nat} {x : Int} (hx : 0 ≤ x ∧ x ≤ 255) (hk : k < xs.length) : BR base (xs.set k x) g cap (W.setCell ⟨g, k, none⟩ (.int .u8 x)) := by
  have hs := grown_setCells g [.int .u8 x] k W
  refine ⟨h.low, by simpa using h.lt, by simpa using h.le, h.max, fun y hy => ?_, fun j y hy => ?_, fun j hj => ⟨some_setCells g [.int .u8 x] k W _ (h.there j hj).1, (World.frozen?_setCell _ _ _ _).trans (h.there j hj).2⟩⟩
  · rcases List.mem_or_eq_of_mem_set hy with hy | hy
    · exact h.byte y hy
    · subst hy; exact hx
  · rw [List.getElem?_set] at hy
    split at hy
    · rename_i e
      subst e
      injection hy with hy
      subst hy
      obtain ⟨u, hu⟩ := Option.isSome_iff_exists.1 (h.there k (Nat.lt_of_lt_of_le hk h.le)).1
      exact World.cell?_setCell_same _ _ _ hu
    · rename_i e
      rw [World.cell?_setCell_other _ _ _ _ (fun e2 => e (by injection e2))]
      exact h.cells j y hy
end
/-- Bytes behind a row of bytes. -/
theorem run_append_br {base g cap : Nat} {xs : List Int} {W : World} (h : BR base xs g cap W) (hbase : base ≤ W.heap.size) (ty : TypeId) (ad : Addr) (m c : Nat) (news : List Int) (hl : news.length = m) (hb : ∀ x ∈ news, 0 ≤ x ∧ x ≤ 255) (hnews : ∀ j u, (news.map (Value.int .u8))[j]? = some u → W.cell? (ad.add j) = some u) (b1 : xs.length + m ≤ 1000000) :
    ∃ g' cap' W', (Builtin.append_ #[22, 22] ty #[.slice (some ⟨g, 0, none⟩) xs.length cap, .slice (some ad) m c]).run Tryz.prog W = .ok (.slice (some ⟨g', 0, none⟩) (xs.length + m) cap') W' ∧ BR base (xs ++ news) g' cap' W' ∧ W.grownBy W' (some g) := by
  obtain ⟨i0, hi, hz0, hz1, hz2⟩ := info_parts info8
  have hbb : ∀ x ∈ xs ++ news, 0 ≤ x ∧ x ≤ 255 := fun x hx => (List.mem_append.1 hx).elim (h.byte x) (hb x)
  have hone : ∀ u ∈ news.map (Value.int .u8), u.oneCell' = true := fun u hu => by
    obtain ⟨x, _, rfl⟩ := List.mem_map.1 hu
    rfl
  by_cases hr : xs.length + m ≤ cap
  · have hrun := run_append_room_cells (P := Tryz.prog) W 22 ty 5 i0 Tryz.underlying22 hi g 0 xs.length cap ad m c (news.map (Value.int .u8)) (by rw [List.length_map, hz1, hl, Nat.mul_one]) hnews hone hr
      (fun j hj => by rw [List.length_map] at hj; rw [hz1]; exact (h.there _ (by omega)).1) (fun j hj => by rw [List.length_map] at hj; rw [hz1]; exact (h.there _ (by omega)).2)
    refine ⟨g, cap, _, hrun, ⟨h.low, ?_, by rw [List.length_append, hl]; exact hr, h.max, hbb, fun j x hx => ?_, fun j hj => ⟨some_setCells _ _ _ _ _ (h.there j hj).1, (frozen_setCells _ _ _ _ _).trans (h.there j hj).2⟩⟩, grown_setCells _ _ _ _⟩
    · exact Nat.lt_of_lt_of_le h.lt (grown_setCells g _ _ W).size
    · rw [hz1, Nat.zero_add, Nat.mul_one]
      rcases Nat.lt_or_ge j xs.length with hj | hj
      · rw [World.cell?_setCells_out g _ _ _ _ (fun _ _ => .inl hj)]
        rw [List.getElem?_append_left hj] at hx
        exact h.cells j x hx
      · rw [List.getElem?_append_right hj] at hx
        have hj2 : j - xs.length < news.length := (List.getElem?_eq_some_iff.1 hx).1
        have := World.cell?_setCells_in g (news.map (Value.int .u8)) xs.length W (fun k hk => by rw [List.length_map] at hk; exact (h.there _ (by omega)).1) (j - xs.length) (by rw [List.length_map]; exact hj2)
        rw [show xs.length + (j - xs.length) = j by omega] at this
        rw [this]
        have := (List.getElem?_eq_some_iff.1 hx).2
        simp [this]
  · obtain ⟨v', W', hrun, hown, hgr⟩ := run_append_arg_grows (P := Tryz.prog) W 22 ty 5 i0 (.int .u8 0) 1 1 Tryz.underlying22 hi hz0 hz1 hz2 rfl (by decide) ⟨g, 0, none⟩ xs.length cap (xs.map (Value.int .u8)) (by simp) (fun j u hj => by
        rw [Addr.add_lit, Nat.zero_add]
        rw [List.getElem?_map] at hj
        obtain ⟨x, hx, rfl⟩ := Option.map_eq_some_iff.1 hj
        exact h.cells j x hx) ad m c (news.map (Value.int .u8)) (by rw [List.length_map, hl, Nat.mul_one]) hnews (by omega) (by unfold maxLen; omega) (by omega)
    have hgr2 : W.grownBy W' (some g) := ⟨hgr.os, hgr.tape, hgr.output, hgr.size, fun k hk _ => hgr.block k hk (by simp)⟩
    rcases hown.2 with ⟨_, h0⟩ | ⟨g', cap', cur, rfl, hg', hh, hnc, hcm, hcs, htake⟩
    · have := h.le
      omega
    · refine ⟨g', cap', W', hrun, ⟨by omega, (Array.getElem?_eq_some_iff.1 hh).1, by rw [List.length_append, hl]; exact hnc, hcm, hbb, fun j x hx => ?_, fun j hj => ⟨?_, hown.frozenAt j⟩⟩, hgr2⟩
      · have hj : j < xs.length + m := by
          have := (List.getElem?_eq_some_iff.1 hx).1
          rw [List.length_append, hl] at this
          exact this
        rw [hown.cellAt j (by omega), ← List.map_append, List.getElem?_map, hx]
        rfl
      · rw [cell_of_row W' g' j cur 5 (0, 0) hh, Array.getElem?_eq_getElem (by omega)]
        rfl
/-- For the walk: an append whose run is known. -/
theorem wpList_append_br {ops : Array Oper} {rest : List Oper} {o : Oper} {a : Act} {Q : Exit → Act → World → Prop} (hgd : o.guard = none) (s x : Operand) (t : TypeId) (ho : o.op = .call { callee := .builtin .append, args := #[s, x], argTypes := #[t, t] })
    {v xv v' : Value} {W W' : World} (hv : a.eval s = v) (hx : a.eval x = xv) (hrun : (Builtin.append_ #[t, t] o.type #[v, xv]).run Tryz.prog W = .ok v' W') (hK : wpList Tryz.prog ops Q rest (a.put o.dst v') W') : wpList Tryz.prog ops Q (o :: rest) a W := by
  refine wpList_plain hgd fun K hK' => ?_
  unfold Oper.wp
  simp [execOp, ho, resolve, invoke, builtin, hv, hx, hrun, Result.andThen]
  exact hK' _ _ hK
/-- What '[]byte(s)' lays. -/
theorem conv_br (s : ByteArray) (w : World) (hs : s.size ≤ maxLen) : ∃ cap W', (convert 9 22 (.string s)).run Tryz.prog w = .ok (.slice (some ⟨w.heap.size, 0, none⟩) (byI s).length cap) W' ∧ BR w.heap.size (byI s) w.heap.size cap W' ∧ Below w.heap.size w W' ∧ W'.heap.size = w.heap.size + 1 := by
  have hrun := run_bytes_of_string (P := Tryz.prog) w 9 22 5 s Tryz.underlying9 Tryz.underlying22 Tryz.underlying5
  have hge := grownCap_ge w s.size 0 5
  have hcm := grownCap_le_maxLen w s.size 0 5 hs
  generalize grownCap w s.size 0 5 = cap at *
  have hsz : (bytesRow s cap).size = cap := by
    simp only [bytesRow, Array.size_append, Array.size_map, Array.size_replicate]
    have : s.data.size = s.size := rfl
    omega
  have hh : (w.drew.alloc (.cells (bytesRow s cap) 5 ((bytesRow s cap).size, (bytesRow s cap).size + 1))).heap[w.heap.size]? = some (.cells (bytesRow s cap) 5 ((bytesRow s cap).size, (bytesRow s cap).size + 1)) := heap_alloc_new w.drew _
  refine ⟨cap, _, by rw [byI_length]; exact hrun, ⟨Nat.le_refl _, by simp, by rw [byI_length]; exact hge, hcm, byI_byte, fun j x hx => ?_, fun j hj => ⟨?_, ?_⟩⟩, ext_trans (ext_drew (Below.refl _ _)) (ext1 w.drew _), by simp⟩
  · rw [cell_of_row _ w.heap.size j _ _ _ hh]
    have hj : j < s.size := by
      have := (List.getElem?_eq_some_iff.1 hx).1
      rwa [byI_length] at this
    rw [bytesRow_at s cap j hj]
    rw [byI_get hj] at hx
    rw [← Option.some.inj hx]
    rfl
  · rw [cell_of_row _ w.heap.size j _ _ _ hh]
    have hj2 : j < (bytesRow s cap).size := by rw [hsz]; exact hj
    rw [Array.getElem?_eq_getElem hj2]
    exact Option.isSome_some
  · unfold World.frozen?
    rw [hh, hsz]
    simp
    omega
set_option maxRecDepth 100000 in
set_option maxHeartbeats 2000000 in
theorem l27Ended_br (w0 : World) (base : Nat) (xs : List Int) (g cap : Nat) (w : World) (hv0 : BR base xs g cap w) (hw0 : Below w0.heap.size w0 w) (hb0 : w0.heap.size ≤ base) (hbw : base ≤ w.heap.size) (hl : xs.length ≤ 900000) (h0 : 0 < xs.length) :
    Calls Tryz.prog 62 #[.slice (some ⟨g, 0, none⟩) xs.length cap] w fun e w' => ∃ t : ByteArray, e = .returned (.string t) ∧ t.size ≤ xs.length + 2 ∧ Below w0.heap.size w0 w' := by
  obtain ⟨k1, k2⟩ := ckS_bd xs 1 hv0.byte (by omega) (by omega)
  have hsum := Lib.hid (fun W : World => l27Sum_any (byS xs) W (by rw [byS_size]; omega))
  rw [byI_byS hv0.byte] at hsum
  have hrd := hv0.rd xs.length
  rw [List.take_length] at hrd
  have hcv := conv_bytes (c := cap) hrd hv0.byte h0
  generalize ckS xs 1 = s at *
  have HV := Lib.hid hv0
  have HW0 := Lib.hid hw0
  have v1 : IntKind.u8.wrap (s / 256) = s / 256 := by simp [IntKind.wrap, IntKind.bits, IntKind.signed] <;> omega
  have v2 : IntKind.u8.wrap (s % 256) = s % 256 := by simp [IntKind.wrap, IntKind.bits, IntKind.signed] <;> omega
  have v3 : s.tdiv 256 = s / 256 := Int.tdiv_eq_ediv_of_nonneg (by omega)
  have v4 : s.tmod 256 = s % 256 := Int.tmod_eq_emod_of_nonneg (by omega)
  have v5 : IntKind.i64.wrap (s / 256) = s / 256 := IntWalk.i64_in _ (by omega)
  have v6 : IntKind.i64.wrap (s % 256) = s % 256 := IntWalk.i64_in _ (by omega)
  have e1 := ext1 w (.cells #[.int .u8 (s / 256), .int .u8 (s % 256)] 5)
  have hltg := hv0.lt
  have hlg := hv0.low
  obtain ⟨g', cap', W', hrun, hbr, hgr⟩ := run_append_br (hv0.next e1) (by simp; omega) 22 ⟨w.heap.size, 0, none⟩ 2 2 [s / 256, s % 256] rfl (fun x hx => by
    simp only [List.mem_cons, List.not_mem_nil, or_false] at hx
    rcases hx with rfl | rfl <;> omega) (news_row w _ _ rfl) (by omega)
  have hrd2 := hbr.rd (xs ++ [s / 256, s % 256]).length
  rw [List.take_length] at hrd2
  have hcv2 := conv_bytes (c := cap') hrd2 hbr.byte (by simp)
  have hl2 : (xs ++ [s / 256, s % 256]).length = xs.length + 2 := by simp
  rw [hl2] at hcv2
  have HB : Hid (Below w0.heap.size w0 W') := (hw0.trans (e1.mono (by have := hw0.size; omega))).grown hgr (by have := hw0.size; simp; omega) (fun k e => by injection e with e; omega)
  have HT : Hid ((byS (xs ++ [s / 256, s % 256])).size ≤ xs.length + 2) := by unfold Hid; rw [byS_size, hl2]; exact Nat.le_refl _
  generalize byS (xs ++ [s / 256, s % 256]) = E at *
  clear hv0 hw0 hrd hrd2 hbr hgr e1 HV HW0 hl2
  go_enter Tryz.func62, Tryz.ntmps62
  go_wp2_with fail
  refine (hsum.out _).mono ?_
  rintro e w' ⟨rfl, rfl⟩
  go_wp2_with (at_builtin; go_must (refine wpList_append_br rfl (.tmp 7) (.tmp 14) 22 rfl rfl rfl hrun ?_))
  go_wp2
  go_ret
  exact ⟨E, rfl, HT.out, HB.out⟩
end Go.Proofs.YtpnabggpdgjbmaaGreatDoor
namespace Go.Proofs.YtpnabggpdgjbmaaGreatDoor
open Go.RowKit Go.Sort
/-- The digits of a number, as bytes; none for 0. -/
def dg0 (u : Nat) : List Int := if u = 0 then [] else dg0 (u / 10) ++ [48 + ((u % 10 : Nat) : Int)]
termination_by u
decreasing_by omega
theorem dg0_zero : dg0 0 = [] := by rw [dg0, if_pos rfl]
theorem dg0_pos {u : Nat} (h : u ≠ 0) : dg0 u = dg0 (u / 10) ++ [48 + ((u % 10 : Nat) : Int)] := by rw [dg0, if_neg h]
/-- A number's decimal text. -/
def decB (n : Int) : ByteArray := ⟨(Lib.itoa n).toArray⟩
theorem dec_map : ∀ (k u : Nat), u ≤ k → 0 < u → (dg0 u).map (fun n => UInt8.ofNat n.toNat) = Lib.decDigits u
  | 0, u, hk, h0 => by omega
  | k + 1, u, hk, h0 => by
    rw [dg0_pos (by omega), List.map_append]
    by_cases h : u < 10
    · rw [Lib.decDigits, dif_pos h, show u / 10 = 0 by omega, dg0_zero]
      simp only [List.map_nil, List.nil_append, List.map_cons]
      rw [show u % 10 = u by omega]
      rfl
    · rw [Lib.decDigits, dif_neg h, dec_map k (u / 10) (by omega) (by omega)]
      rfl
theorem byS_dg0 {u : Nat} (h : 0 < u) : byS (dg0 u) = ⟨(Lib.decDigits u).toArray⟩ := by
  unfold byS
  rw [dec_map u u (Nat.le_refl _) h]
theorem dg0_byte : ∀ (k u : Nat), u ≤ k → ∀ b ∈ dg0 u, 0 ≤ b ∧ b ≤ 255
  | 0, u, hk, b, hb => by
    obtain rfl : u = 0 := by omega
    rw [dg0_zero] at hb
    simp at hb
  | k + 1, u, hk, b, hb => by
    by_cases h : u = 0
    · subst h
      rw [dg0_zero] at hb
      simp at hb
    · rw [dg0_pos h] at hb
      rcases List.mem_append.1 hb with hb | hb
      · exact dg0_byte k (u / 10) (by omega) b hb
      · simp only [List.mem_cons, List.not_mem_nil, or_false] at hb
        omega
theorem dg0_len : ∀ (k u : Nat), u < 10 ^ k → (dg0 u).length ≤ k
  | 0, u, h => by
    obtain rfl : u = 0 := by simp at h; omega
    rw [dg0_zero]; simp
  | k + 1, u, h => by
    by_cases h0 : u = 0
    · subst h0; rw [dg0_zero]; simp
    · rw [dg0_pos h0, List.length_append]
      have := dg0_len k (u / 10) (by rw [Nat.pow_succ] at h; omega)
      simp; omega
theorem dg0_ne {u : Nat} (h : 0 < u) : 0 < (dg0 u).length := by rw [dg0_pos (by omega)]; simp
theorem decB_zero : decB 0 = ⟨#[48]⟩ := by
  unfold decB Lib.itoa
  rw [if_neg (by omega)]
  rw [Lib.decDigits, dif_pos (by decide)]
  rfl
theorem decB_pos {n : Int} (h : 0 < n) : decB n = byS (dg0 n.natAbs) := by
  rw [byS_dg0 (by omega)]
  unfold decB Lib.itoa
  rw [if_neg (by omega), show n.toNat = n.natAbs by omega]
theorem decB_neg {n : Int} (h : n < 0) : decB n = ⟨#[45]⟩ ++ byS (dg0 n.natAbs) := by
  rw [byS_dg0 (by omega)]
  unfold decB Lib.itoa
  rw [if_pos h]
  apply ByteArray.ext
  simp [ByteArray.data_append]
theorem decB_size {n : Int} (h0 : -9223372036854775808 ≤ n) (h1 : n ≤ 9223372036854775807) : (decB n).size ≤ 21 := by
  have := Lib.itoa_length_le n h0 h1
  show (Lib.itoa n).toArray.size ≤ 21
  simpa using this
end Go.Proofs.YtpnabggpdgjbmaaGreatDoor
namespace Go.Proofs.YtpnabggpdgjbmaaGreatDoor
open Go.RowKit Go.Sort
/-- The table of the powers of ten lies in memory. -/
def Tab10 (w : World) : Prop := Lib.TabIs Tryz.prog w "internal/strconv.uint64pow10" .u64 Lib.pow10Tab
theorem Tab10.next {w W : World} (h : Tab10 w) (hb : Below w.heap.size w W) : Tab10 W := Lib.tabBelow_of_tabIs h W hb
theorem iDecimal_any (n : Int) (w : World) (n1 : -9223372036854775808 ≤ n) (n2 : n ≤ 9223372036854775807) (h : Tab10 w) :
    Calls Tryz.prog 90 #[.int .i64 n] w fun e w' => e = .returned (.string (decB n)) ∧ Below w.heap.size w w' := by
  have HF : Hid (Calls Tryz.prog 130 #[.int .i64 n, .int .i64 10] w fun e w' => e = .returned (.string (decB n)) ∧ Below w.heap.size w w') := by
    refine (Tryz.strconv_FormatInt_10 n n1 n2 w h).mono ?_
    rintro e w' ⟨rfl, k, os, rfl⟩
    exact ⟨rfl, Lib.below_grow _ w (Nat.le_refl _) k os⟩
  generalize decB n = d at *
  clear h n1 n2
  go_enter Tryz.func90, Tryz.ntmps90
  go_wp2_with fail
  refine HF.out.mono ?_
  rintro e w1 ⟨rfl, hb⟩
  go_wp2
  go_ret
  exact ⟨rfl, hb⟩
theorem tm_eqs (k : Int) (h1 : -9223372036854775808 ≤ k) (h2 : k ≤ 9223372036854775807) : ∃ D K : Int, k.tmod 10 = D ∧ k.tdiv 10 = K ∧ (D.natAbs = k.natAbs % 10) ∧ K.natAbs = k.natAbs / 10 ∧ -9 ≤ D ∧ D ≤ 9 ∧ -922337203685477580 ≤ K ∧ K ≤ 922337203685477580 := by
  refine ⟨_, _, rfl, rfl, by rw [Int.natAbs_tmod]; rfl, by rw [Int.natAbs_tdiv]; rfl, ?_, ?_, ?_, ?_⟩
  all_goals
    have e1 : (k.tmod 10).natAbs = k.natAbs % 10 := by rw [Int.natAbs_tmod]; rfl
    have e2 : (k.tdiv 10).natAbs = k.natAbs / 10 := by rw [Int.natAbs_tdiv]; rfl
    omega
set_option maxRecDepth 100000 in
set_option maxHeartbeats 4000000 in
theorem l01Dec_any (n : Int) (w : World) (n1 : -9223372036854775808 ≤ n) (n2 : n ≤ 9223372036854775807) :
    Calls Tryz.prog 139 #[.int .i64 n] w fun e w' => e = .returned (.string (decB n)) ∧ Below w.heap.size w w' := by
  obtain ⟨ti, hi, hz0, hz1, hz2⟩ := info_parts info8
  have HI := Lib.hid hi
  have hlen := dg0_len 20 n.natAbs (by have : (10 : Nat) ^ 20 = 100000000000000000000 := by decide
                                       omega)
  have HBY := Lib.hid (dg0_byte n.natAbs n.natAbs (Nat.le_refl _))
  have H0 : Hid (n ≠ 0 → 0 < (dg0 n.natAbs).length) := fun h => dg0_ne (by omega)
  have HZ : Hid (n = 0 → dg0 n.natAbs = []) := fun h => by rw [h]; exact dg0_zero
  have HD : Hid ((n = 0 → decB n = ⟨#[48]⟩) ∧ (0 < n → decB n = byS (dg0 n.natAbs)) ∧ (n < 0 → decB n = ⟨#[45]⟩ ++ byS (dg0 n.natAbs))) := ⟨fun h => by rw [h]; exact decB_zero, decB_pos, decB_neg⟩
  obtain ⟨R, hR⟩ : ∃ R, dg0 n.natAbs = R := ⟨_, rfl⟩
  rw [hR] at hlen HBY H0 HZ HD
  have HR := Lib.hid hR
  have O : Hid (OutB w w.heap.size [] (.slice (some ⟨w.heap.size, 0, none⟩) 0 0) (w.alloc (.cells #[] 5))) := by
    refine ⟨?_, ext1 _ _, by simp⟩
    have h := World.ownsRow_lit (base := w.heap.size) (e := 5) (size := 1) w #[] 0 (Nat.le_refl _) (by unfold maxLen; omega) rfl
    simpa using h
  generalize decB n = d at *
  clear hi hR
  go_enter Tryz.func139, Tryz.ntmps139
  go_wp2_with fail
  go_loopw [3, 4, 5] (fun v t u wr => ∃ (k : Int) (out : List Int) (g c : Nat), t = .int .i64 k ∧ v = .slice (some ⟨g, 0, none⟩) out.length c ∧ -9223372036854775808 ≤ k ∧ k ≤ 9223372036854775807 ∧ Hid (dg0 k.natAbs ++ out = R) ∧ Hid (OutB w w.heap.size out v wr)) (fun _ t _ _ => (intOf t).natAbs)
  case atStart => exact ⟨n, [], w.heap.size, 0, rfl, rfl, n1, n2, by unfold Hid; rw [List.append_nil]; exact HR.out, O.out⟩
  case round =>
    obtain ⟨k, out, g, c, rfl, rfl, k1, k2, HK, HO⟩ := hrel
    clear O
    by_cases hk : k = 0
    · have hRe : Hid (R = out) := by
        have h := HK.out
        rw [hk, show (0 : Int).natAbs = 0 from rfl, dg0_zero, List.nil_append] at h
        exact h.symm
      have hH := HO.out
      rw [← hRe.out] at hH
      have HO2 := Lib.hid hH
      have hlr : R.length = out.length := by rw [hRe.out]
      have HLR := Lib.hid hlr
      rw [← HLR.out]
      clear hH HO HK
      by_cases hn : n = 0
      · have e0 : R = [] := HZ.out hn
        have e1 : d = ⟨#[48]⟩ := HD.out.1 hn
        subst e0 e1
        have HB2 := Lib.hid HO2.out.2.1
        clear HD HZ H0 HBY hRe hlr HLR HO2
        simp only [List.length_nil]
        go_wp2
        go_ret
        exact ⟨rfl, HB2.out⟩
      · have hp := H0.out hn
        have hp1 : ((R.length : Int) == 0) = false := by rw [beq_eq_false_iff_ne]; omega
        have HB2 := Lib.hid HO2.out.2.1
        obtain ⟨_, A2, c2, e2, hw⟩ := Wr.of_own HO2.out.1
        injection e2 with e3 e4 e5
        subst e3
        have hcv := conv_bytes (c := c2) hw.rd HBY.out hp
        have hzs : (byS R).size ≤ 20 := by rw [byS_size]; exact hlen
        rcases Int.lt_or_gt_of_ne hn with h | h
        · have e1 := HD.out.2.2 h
          generalize byS R = Z at *
          have HE := Lib.hid e1
          clear HD HZ H0 HBY hRe hlr HLR HO2 hw hp
          go_wp2
          go_ret
          exact ⟨rfl, HB2.out⟩
        · have e1 := HD.out.2.1 h
          have hn2 : ¬ n < 0 := by omega
          generalize byS R = Z at *
          have HE := Lib.hid e1
          clear HD HZ H0 HBY hRe hlr HLR HO2 hw hp
          go_wp2
          go_ret
          exact ⟨rfl, HB2.out⟩
    · obtain ⟨D, K, hD1, hK1, d1, q1, d2, d3, q2, q3⟩ := tm_eqs k k1 k2
      obtain ⟨m, hm⟩ : ∃ m : Nat, k.natAbs % 10 = m := ⟨_, rfl⟩
      have hm9 : m ≤ 9 := by omega
      have HKK : Hid (dg0 K.natAbs ++ ((48 + (m : Int)) :: out) = R) := by
        have h := HK.out
        rw [dg0_pos (by omega), hm, List.append_assoc] at h
        unfold Hid
        rw [q1]
        exact h
      have hlo : out.length + 1 ≤ 20 := by
        have h := congrArg List.length HKK.out
        rw [List.length_append, List.length_cons] at h
        omega
      have hkK : K.natAbs < k.natAbs := by omega
      have HKL := Lib.hid hkK
      have v1 : IntKind.i64.wrap (48 + (m : Int)) = 48 + (m : Int) := IntWalk.i64_in _ (by omega)
      have v2 : IntKind.u8.wrap (48 + (m : Int)) = 48 + (m : Int) := by simp [IntKind.wrap, IntKind.bits, IntKind.signed]; omega
      have HRD : Hid (∀ j u, (out.map (Value.int .u8))[j]? = some u → (wr.alloc (.cells #[.int .u8 (48 + (m : Int))] 5)).cell? ((⟨g, 0, none⟩ : Addr).add j) = some u) := fun j u hu => by
        have hh := own_below HO.out.1 (ext1 wr (.cells #[.int .u8 (48 + (m : Int))] 5))
        exact hh.cells (g := g) rfl j u hu
      have hownL : World.ownsRow (wr.alloc (.cells #[.int .u8 (48 + (m : Int))] 5)) w.heap.size 5 1 (.slice (some ⟨wr.heap.size, 0, none⟩) 1 1) 1 [.int .u8 (48 + (m : Int))] := by
        have h := World.ownsRow_lit (base := w.heap.size) (e := 5) (size := 1) wr #[.int .u8 (48 + (m : Int))] 1 HO.out.2.2 (by unfold maxLen; omega) rfl
        simpa using h
      have HBE : Hid (Below w.heap.size w (wr.alloc (.cells #[.int .u8 (48 + (m : Int))] 5))) := ext_alloc HO.out.2.1 _
      have hbz := HO.out.2.2
      have HOWN := Lib.hid hownL
      have kne : (k != 0) = true := by simpa using hk
      have w2 : IntKind.i64.wrap K = K := IntWalk.i64_in _ (by omega)
      by_cases hneg : D < 0
      · have v3 : IntKind.i64.wrap (-D) = -D := IntWalk.i64_in _ (by omega)
        have v4 : -D = (m : Int) := by omega
        clear hk d1 q1 hm
        go_wp2_with (at_builtin; refine wpList_append_own _ rfl _ _ 22 rfl w.heap.size 5 ti (.int .u8 0) 1 1 Tryz.underlying22 HI.out hz0 hz1 hz2 rfl (by decide) _ _ _ rfl HOWN.out ⟨g, 0, none⟩ out.length c (out.map (Value.int .u8)) rfl (by simp) HRD.out ?c1 ?c3 ?c4 ?c5 ?_)
        case c1 => intro u hu; first | rfl | (obtain ⟨y, _, rfl⟩ := List.mem_map.1 hu; rfl)
        case c3 => unfold maxLen; omega
        case c4 => omega
        case c5 => (try simp only [World.size_alloc]); omega
        intro v' w3 hown3 hgrow _
        have HV3 : Hid (OutB w w.heap.size ((48 + (m : Int)) :: out) v' w3) := by
          refine ⟨?_, below_grown HBE.out HOWN.out (Nat.le_refl _) hgrow, ?_⟩
          · rw [List.length_cons, Nat.add_comm out.length]
            exact hown3
          · have := hgrow.size
            simp only [World.size_alloc] at this
            omega
        obtain ⟨g3, c3, rfl, _⟩ := own_at HV3.out.1 (by simp)
        have HLC : Hid (((48 + (m : Int)) :: out).length = out.length + 1) := rfl
        clear hown3 hgrow HRD HOWN hownL HBE HO HK
        go_wp2
        go_roundw
        case rel => exact ⟨K, (48 + (m : Int)) :: out, g3, c3, rfl, rfl, by omega, by omega, HKK.out, HV3.out⟩
        case measure => simp [intOf]; exact HKL.out
      · have v4 : D = (m : Int) := by omega
        clear hk d1 q1 hm
        go_wp2_with (at_builtin; refine wpList_append_own _ rfl _ _ 22 rfl w.heap.size 5 ti (.int .u8 0) 1 1 Tryz.underlying22 HI.out hz0 hz1 hz2 rfl (by decide) _ _ _ rfl HOWN.out ⟨g, 0, none⟩ out.length c (out.map (Value.int .u8)) rfl (by simp) HRD.out ?c1 ?c3 ?c4 ?c5 ?_)
        case c1 => intro u hu; first | rfl | (obtain ⟨y, _, rfl⟩ := List.mem_map.1 hu; rfl)
        case c3 => unfold maxLen; omega
        case c4 => omega
        case c5 => (try simp only [World.size_alloc]); omega
        intro v' w3 hown3 hgrow _
        have HV3 : Hid (OutB w w.heap.size ((48 + (m : Int)) :: out) v' w3) := by
          refine ⟨?_, below_grown HBE.out HOWN.out (Nat.le_refl _) hgrow, ?_⟩
          · rw [List.length_cons, Nat.add_comm out.length]
            exact hown3
          · have := hgrow.size
            simp only [World.size_alloc] at this
            omega
        obtain ⟨g3, c3, rfl, _⟩ := own_at HV3.out.1 (by simp)
        have HLC : Hid (((48 + (m : Int)) :: out).length = out.length + 1) := rfl
        clear hown3 hgrow HRD HOWN hownL HBE HO HK
        go_wp2
        go_roundw
        case rel => exact ⟨K, (48 + (m : Int)) :: out, g3, c3, rfl, rfl, by omega, by omega, HKK.out, HV3.out⟩
        case measure => simp [intOf]; exact HKL.out
end Go.Proofs.YtpnabggpdgjbmaaGreatDoor
namespace Go.Proofs.YtpnabggpdgjbmaaGreatDoor
open Go.RowKit Go.Sort
/-- The text of a fraction. -/
def frT (n d : Int) : ByteArray := if d = 1 then decB n else (decB n ++ ({ data := #[47] } : ByteArray)) ++ decB d
/-- The text of a surd. -/
def sdT (p d q : Int) : ByteArray := ((((({ data := #[40] } : ByteArray) ++ decB p) ++ ({ data := #[43, 114] } : ByteArray)) ++ decB d) ++ ({ data := #[41, 47] } : ByteArray)) ++ decB q
/-- The text of terms, up to k. -/
def tmO (ts : List Int) : Nat → ByteArray
  | 0 => ⟨#[]⟩
  | 1 => ({ data := #[91] } : ByteArray) ++ decB (ts.getD 0 0)
  | k + 2 => (tmO ts (k + 1) ++ (if k = 0 then ({ data := #[59, 32] } : ByteArray) else ({ data := #[44, 32] } : ByteArray))) ++ decB (ts.getD (k + 1) 0)
/-- The text of terms. -/
def tmT (ts : List Int) : ByteArray := tmO ts ts.length ++ ({ data := #[93] } : ByteArray)
theorem appSize (a b : ByteArray) : (a ++ b).size = a.size + b.size := ByteArray.size_append
theorem frT_size {n d : Int} (n1 : -1000000000 ≤ n) (n2 : n ≤ 1000000000) (d1 : -1000000000 ≤ d) (d2 : d ≤ 1000000000) : (frT n d).size ≤ 43 := by
  have h1 := decB_size (n := n) (by omega) (by omega)
  have h2 := decB_size (n := d) (by omega) (by omega)
  have l : ({ data := #[47] } : ByteArray).size = 1 := rfl
  unfold frT
  split
  · omega
  · rw [appSize, appSize]; omega
theorem tmO_size {ts : List Int} (h : ∀ t ∈ ts, -1000000000 ≤ t ∧ t ≤ 1000000000) : ∀ k, k ≤ ts.length → (tmO ts k).size ≤ 23 * k
  | 0, _ => by simp [tmO]; rfl
  | 1, hk => by
    have hx : ts[0]? = some (ts[0]'(by omega)) := List.getElem?_eq_getElem (by omega)
    have hb := h _ (List.getElem_mem (show 0 < ts.length by omega))
    have hz := decB_size (n := ts[0]'(by omega)) (by omega) (by omega)
    have l : ({ data := #[91] } : ByteArray).size = 1 := rfl
    unfold tmO
    simp only [List.getD, hx, Option.getD_some]
    rw [appSize]
    omega
  | k + 2, hk => by
    have ih := tmO_size h (k + 1) (by omega)
    have hx : ts[k + 1]? = some (ts[k + 1]'(by omega)) := List.getElem?_eq_getElem (by omega)
    have hb := h _ (List.getElem_mem (show k + 1 < ts.length by omega))
    have hz := decB_size (n := ts[k + 1]'(by omega)) (by omega) (by omega)
    have l1 : ({ data := #[59, 32] } : ByteArray).size = 2 := rfl
    have l2 : ({ data := #[44, 32] } : ByteArray).size = 2 := rfl
    unfold tmO
    simp only [List.getD, hx, Option.getD_some]
    rw [appSize, appSize]
    split <;> omega
/-- What stands behind a note's name. -/
def ntBody (x : Nt) : ByteArray := if x.kind = 1 then frT x.num x.den else if x.kind = 2 then tmT x.terms else sdT x.sp x.sd x.sq
/-- A note's line. -/
def ntLine (x : Nt) : ByteArray := ((x.name ++ ({ data := #[32, 61, 32] } : ByteArray)) ++ ntBody x) ++ ({ data := #[10] } : ByteArray)
/-- The text of the first k notes. -/
def ntsO (xs : List Nt) : Nat → ByteArray
  | 0 => ⟨#[]⟩
  | k + 1 => ntsO xs k ++ (match xs[k]? with | some x => ntLine x | none => ⟨#[]⟩)
end Go.Proofs.YtpnabggpdgjbmaaGreatDoor
