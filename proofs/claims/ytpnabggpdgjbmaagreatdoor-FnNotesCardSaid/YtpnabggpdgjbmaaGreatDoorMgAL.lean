/- Numbers packed into bytes, and sums of bytes. No condition but those that each theorem names. -/
import Derived.Test.YtpnabggpdgjbmaaGreatDoorMgAC
import Derived.Test.YtpnabggpdgjbmaaGreatDoorMgAB
import Derived.Test.YtpnabggpdgjbmaaGreatDoorMgAK
namespace Go.Proofs.YtpnabggpdgjbmaaGreatDoor
open Go.RowKit Go.Sort
/-- A number's bytes, seven bits in each, the lowest first. -/
def pkL (z : Nat) : List Int := if 128 ≤ z then ((z % 128 + 128 : Nat) : Int) :: pkL (z / 128) else [(z : Int)]
termination_by z
decreasing_by omega
theorem pkL_big {z : Nat} (h : 128 ≤ z) : pkL z = ((z % 128 + 128 : Nat) : Int) :: pkL (z / 128) := by rw [pkL, if_pos h]
theorem pkL_small {z : Nat} (h : ¬ 128 ≤ z) : pkL z = [(z : Int)] := by rw [pkL, if_neg h]
theorem pkL_length : ∀ (k z : Nat), z < 128 ^ (k + 1) → (pkL z).length ≤ k + 1
  | 0, z, h => by rw [pkL_small (by omega)]; simp
  | k + 1, z, h => by
    by_cases hz : 128 ≤ z
    · rw [pkL_big hz]
      have := pkL_length k (z / 128) (by rw [Nat.pow_succ] at h; omega)
      simp; omega
    · rw [pkL_small hz]; simp
/-- A whole number as one that is not negative. -/
def zigN (n : Int) : Nat := if n < 0 then (-2 * n - 1).toNat else (2 * n).toNat
theorem pkL_zig {n : Int} (h1 : -1000000000000000 ≤ n) (h2 : n ≤ 1000000000000000) : (pkL (zigN n)).length ≤ 10 := by
  have hz : zigN n < 128 ^ (9 + 1) := by
    have e : (128 : Nat) ^ (9 + 1) = 1180591620717411303424 := by decide
    rw [e]; unfold zigN; split <;> omega
  exact pkL_length 9 _ hz
theorem info8 : (Tryz.prog.info? 5).map (fun i => (i.zero, i.size, i.bytes)) = some (some (.int .u8 0), 1, 1) := by kernel_rfl
/-- What holds of a list of bytes on its way. -/
def OutB (w : World) (base : Nat) (out : List Int) (v : Value) (wr : World) : Prop :=
  wr.ownsRow base 5 1 v out.length (out.map (Value.int .u8)) ∧ Below w.heap.size w wr ∧ base ≤ wr.heap.size
theorem OutB.push {w : World} {base : Nat} {out : List Int} {v : Value} {wr : World} (h : OutB w base out v wr) (hbase : w.heap.size ≤ base) {t : Int} (v' : Value) (w3 : World) {o : Obj}
    (hown3 : w3.ownsRow base 5 1 v' (out.length + 1) (out.map (Value.int .u8) ++ [.int .u8 t])) (hg : (wr.alloc o).grownBy w3 v.ownBlock) : OutB w base (out ++ [t]) v' w3 := by
  obtain ⟨hown, hbel, hsz⟩ := h
  refine ⟨by simpa using hown3, below_grown (ext_alloc hbel o) (hown.alloc o) hbase hg, ?_⟩
  have := hg.size
  simp at this
  omega
/-- What a call returns that makes a list of bytes. -/
def RetB (w : World) (xs : List Int) (e : Ending) (w' : World) : Prop :=
  ∃ A c, e = .returned (.slice A xs.length c) ∧ Wr (Value.int .u8) w' w.heap.size A xs ∧ Below w.heap.size w w'
/-- The sum of bytes. -/
def ckS : List Int → Int → Int
  | [], s => s
  | x :: xs, s => ckS xs ((257 * s + x) % 65521)
theorem ckS_step {xs : List Int} {k : Nat} {x s : Int} (h : xs[k]? = some x) : ckS (xs.drop k) s = ckS (xs.drop (k + 1)) ((257 * s + x) % 65521) := by
  obtain ⟨h1, h2⟩ := List.getElem?_eq_some_iff.1 h
  rw [List.drop_eq_getElem_cons h1, h2]; rfl
theorem ckS_end {xs : List Int} {k : Nat} {s : Int} (h : ¬ k < xs.length) : ckS (xs.drop k) s = s := by
  rw [List.drop_eq_nil_of_le (by omega)]; rfl
/-- A string's bytes, and a string of bytes. -/
def byI (s : ByteArray) : List Int := s.data.toList.map (fun b => (b.toNat : Int))
def byS (xs : List Int) : ByteArray := ⟨(xs.map (fun n => UInt8.ofNat n.toNat)).toArray⟩
theorem byI_length (s : ByteArray) : (byI s).length = s.size := by simp [byI]
theorem byI_get {s : ByteArray} {k : Nat} (h : k < s.size) : (byI s)[k]? = some ((s[k]).toNat : Int) := by
  have hl : s.data.toList.length = s.size := by cases s; rfl
  unfold byI
  rw [List.getElem?_map, List.getElem?_eq_getElem (by omega)]
  rfl
theorem ofNat_byte {n : Int} (h1 : 0 ≤ n) (h2 : n ≤ 255) : ((UInt8.ofNat n.toNat).toNat : Int) = n := by
  rw [UInt8.toNat_ofNat']
  have : n.toNat % 2 ^ 8 = n.toNat := Nat.mod_eq_of_lt (by omega)
  omega
theorem byI_byS {xs : List Int} (h : ∀ x ∈ xs, 0 ≤ x ∧ x ≤ 255) : byI (byS xs) = xs := by
  unfold byI byS
  simp only [List.map_map]
  conv => rhs; rw [← List.map_id xs]
  apply List.map_congr_left
  intro x hx
  obtain ⟨h1, h2⟩ := h x hx
  simp only [Function.comp, id]
  exact ofNat_byte h1 h2
theorem byS_size (xs : List Int) : (byS xs).size = xs.length := by
  show ((xs.map (fun n => UInt8.ofNat n.toNat)).toArray).size = xs.length
  simp
theorem conv_bytes {A : Option Addr} {c B : Nat} {xs : List Int} {w : World} (hr : Rd (Value.int .u8) w B A xs) (hb : ∀ x ∈ xs, 0 ≤ x ∧ x ≤ 255) (h0 : 0 < xs.length) :
    (convert 22 9 (.slice A xs.length c)).run Tryz.prog w = .ok (.string (byS xs)) w := by
  obtain ⟨b, off, rfl, _, hc⟩ := hr h0
  have hl : (xs.map (fun n => UInt8.ofNat n.toNat)).length = xs.length := List.length_map _
  have h := run_convert_bytes_back (P := Tryz.prog) w 22 9 5 ⟨b, off, none⟩ c (xs.map (fun n => UInt8.ofNat n.toNat)) Tryz.underlying22 Tryz.underlying5 Tryz.underlying9 (fun j hj => by
    have hj' : j < xs.length := by rw [hl] at hj; exact hj
    have ea : (⟨b, off, none⟩ : Addr).add j = ⟨b, off + j, none⟩ := by simp [Addr.add]
    have hx := hc j xs[j] (List.getElem?_eq_getElem hj')
    obtain ⟨h1, h2⟩ := hb xs[j] (List.getElem_mem hj')
    rw [ea, hx]
    simp only [List.getElem_map]
    rw [ofNat_byte h1 h2])
  rw [hl] at h
  exact h
set_option maxRecDepth 100000 in
set_option maxHeartbeats 2000000 in
theorem packNumber_any (n : Int) (w : World) (n1 : -1000000000000000 ≤ n) (n2 : n ≤ 1000000000000000) :
    Calls Tryz.prog 58 #[.int .i64 n] w (RetB w (pkL (zigN n))) := by
  obtain ⟨i0, hi, hz0, hz1, hz2⟩ := info_parts info8
  have HI := Lib.hid hi
  have hlen := pkL_zig n1 n2
  obtain ⟨R, hR⟩ : ∃ R, pkL (zigN n) = R := ⟨_, rfl⟩
  rw [hR] at hlen ⊢
  have HR : Hid (pkL (zigN n) = R) := hR
  have HZ : Hid (zigN n = if n < 0 then (-2 * n - 1).toNat else (2 * n).toNat) := rfl
  have hzb : (zigN n : Int) ≤ 3000000000000000 := by unfold zigN; split <;> omega
  clear hR hi
  generalize zigN n = Z at *
  have u1 : IntKind.i64.wrap (2 * n) = 2 * n := IntWalk.i64_in _ (by omega)
  have u2 : IntKind.i64.wrap (-2 * n) = -2 * n := IntWalk.i64_in _ (by omega)
  have u3 : IntKind.i64.wrap (-2 * n - 1) = -2 * n - 1 := IntWalk.i64_in _ (by omega)
  by_cases hn : n < 0
  · have u4 : IntKind.u64.wrap (-2 * n - 1) = (Z : Int) := by have h := HZ.out; rw [if_pos hn] at h; rw [IntWalk.u64_in _ (by omega)]; omega
    go_enter Tryz.func58, Tryz.ntmps58
    go_wp2_with fail
    clear u1 u2 u3 u4 hn HZ
    go_loopw [3, 4] (fun t v wr => ∃ (z : Nat) (out : List Int), t = .int .u64 z ∧ (z : Int) ≤ 3000000000000000 ∧ Hid (out ++ pkL z = R) ∧ OutB w w.heap.size out v wr) (fun t _ _ => (intOf t).toNat)
    case atStart => exact ⟨Z, [], rfl, hzb, HR.out, own_nil, Below.refl _ _, Nat.le_refl _⟩
    case round =>
      obtain ⟨z, out, rfl, z1, HO, HV⟩ := hrel
      clear HR hzb
      have hout : out.length + 1 ≤ 10 := by
        have h := HO.out
        have h2 : (out ++ pkL z).length ≤ 10 := by rw [h]; exact hlen
        have h3 : 1 ≤ (pkL z).length := by rw [pkL]; split <;> simp
        simp at h2
        omega
      have HVV := Lib.hid HV
      have hown := HVV.out.1
      have hbz := HVV.out.2.2
      clear HV
      have z0 : (0 : Int) ≤ (z : Int) := by omega
      by_cases hb : 128 ≤ z
      · have hb' : (128 : Int) ≤ (z : Int) := by omega
        have HN : Hid ((out ++ [((z % 128 + 128 : Nat) : Int)]) ++ pkL (z / 128) = R) := by
          have h := HO.out
          rw [pkL_big hb] at h
          unfold Hid
          rw [List.append_assoc]
          exact h
        have v1 : IntKind.u64.wrap ((z : Int) % 128) = (z : Int) % 128 := IntWalk.u64_in _ (by omega)
        have v2 : IntKind.u64.wrap ((z : Int) % 128 + 128) = (z : Int) % 128 + 128 := IntWalk.u64_in _ (by omega)
        have v3 : IntKind.u8.wrap ((z : Int) % 128 + 128) = (z : Int) % 128 + 128 := by simp [IntKind.wrap, IntKind.bits, IntKind.signed]; omega
        have v4 : IntKind.u64.wrap ((z : Int) / 128) = (z : Int) / 128 := IntWalk.u64_in _ (by omega)
        have v5 : (z : Int).tmod 128 = (z : Int) % 128 := Int.tmod_eq_emod_of_nonneg (by omega)
        have v6 : (z : Int).tdiv 128 = (z : Int) / 128 := Int.tdiv_eq_ediv_of_nonneg (by omega)
        go_wp2_with (at_builtin; refine wpList_append_own _ rfl _ _ 22 rfl w.heap.size 5 i0 (.int .u8 0) 1 1 Tryz.underlying22 HI.out hz0 hz1 hz2 rfl (by decide) _ _ _ rfl (hown.alloc _) ⟨wr.heap.size, 0, none⟩ 1 1 [.int .u8 ((z : Int) % 128 + 128)] rfl rfl (cell_one_new _ _ _) (by simp [Value.oneCell']) (by unfold maxLen; omega) (by omega) (by simp; omega) ?_)
        intro v' w3 hown3 hgrow _
        have HV3 := OutB.push HVV.out (Nat.le_refl _) _ _ hown3 hgrow
        clear hown3 hgrow hown
        go_wp2
        go_roundw
        case rel => exact ⟨z / 128, out ++ [((z % 128 + 128 : Nat) : Int)], by go_num, by omega, HN.out, by simpa using HV3⟩
        case measure => simp [intOf]; omega
      · have hb' : ¬ (128 : Int) ≤ (z : Int) := by omega
        have HN : Hid (R = out ++ [(z : Int)]) := by
          have h := HO.out
          rw [pkL_small hb] at h
          exact h.symm
        have v3 : IntKind.u8.wrap (z : Int) = (z : Int) := by simp [IntKind.wrap, IntKind.bits, IntKind.signed]; omega
        go_wp2_with (at_builtin; refine wpList_append_own _ rfl _ _ 22 rfl w.heap.size 5 i0 (.int .u8 0) 1 1 Tryz.underlying22 HI.out hz0 hz1 hz2 rfl (by decide) _ _ _ rfl (hown.alloc _) ⟨wr.heap.size, 0, none⟩ 1 1 [.int .u8 (z : Int)] rfl rfl (cell_one_new _ _ _) (by simp [Value.oneCell']) (by unfold maxLen; omega) (by omega) (by simp; omega) ?_)
        intro v' w3 hown3 hgrow _
        have HV3 := OutB.push HVV.out (Nat.le_refl _) _ _ hown3 hgrow
        clear hown3 hgrow hown
        obtain ⟨hown4, hbel, hsz⟩ := HV3
        rw [← HN.out] at hown4
        obtain ⟨hn4, A, c, rfl, hw4⟩ := Wr.of_own hown4
        have HW4 := Lib.hid hw4
        clear hown4 hw4
        go_wp2
        go_ret
        exact ⟨A, c, rfl, HW4.out, hbel⟩
  · have u4 : IntKind.u64.wrap (2 * n) = (Z : Int) := by have h := HZ.out; rw [if_neg hn] at h; rw [IntWalk.u64_in _ (by omega)]; omega
    go_enter Tryz.func58, Tryz.ntmps58
    go_wp2_with fail
    clear u1 u2 u3 u4 hn HZ
    go_loopw [3, 4] (fun t v wr => ∃ (z : Nat) (out : List Int), t = .int .u64 z ∧ (z : Int) ≤ 3000000000000000 ∧ Hid (out ++ pkL z = R) ∧ OutB w w.heap.size out v wr) (fun t _ _ => (intOf t).toNat)
    case atStart => exact ⟨Z, [], rfl, hzb, HR.out, own_nil, Below.refl _ _, Nat.le_refl _⟩
    case round =>
      obtain ⟨z, out, rfl, z1, HO, HV⟩ := hrel
      clear HR hzb
      have hout : out.length + 1 ≤ 10 := by
        have h := HO.out
        have h2 : (out ++ pkL z).length ≤ 10 := by rw [h]; exact hlen
        have h3 : 1 ≤ (pkL z).length := by rw [pkL]; split <;> simp
        simp at h2
        omega
      have HVV := Lib.hid HV
      have hown := HVV.out.1
      have hbz := HVV.out.2.2
      clear HV
      have z0 : (0 : Int) ≤ (z : Int) := by omega
      by_cases hb : 128 ≤ z
      · have hb' : (128 : Int) ≤ (z : Int) := by omega
        have HN : Hid ((out ++ [((z % 128 + 128 : Nat) : Int)]) ++ pkL (z / 128) = R) := by
          have h := HO.out
          rw [pkL_big hb] at h
          unfold Hid
          rw [List.append_assoc]
          exact h
        have v1 : IntKind.u64.wrap ((z : Int) % 128) = (z : Int) % 128 := IntWalk.u64_in _ (by omega)
        have v2 : IntKind.u64.wrap ((z : Int) % 128 + 128) = (z : Int) % 128 + 128 := IntWalk.u64_in _ (by omega)
        have v3 : IntKind.u8.wrap ((z : Int) % 128 + 128) = (z : Int) % 128 + 128 := by simp [IntKind.wrap, IntKind.bits, IntKind.signed]; omega
        have v4 : IntKind.u64.wrap ((z : Int) / 128) = (z : Int) / 128 := IntWalk.u64_in _ (by omega)
        have v5 : (z : Int).tmod 128 = (z : Int) % 128 := Int.tmod_eq_emod_of_nonneg (by omega)
        have v6 : (z : Int).tdiv 128 = (z : Int) / 128 := Int.tdiv_eq_ediv_of_nonneg (by omega)
        go_wp2_with (at_builtin; refine wpList_append_own _ rfl _ _ 22 rfl w.heap.size 5 i0 (.int .u8 0) 1 1 Tryz.underlying22 HI.out hz0 hz1 hz2 rfl (by decide) _ _ _ rfl (hown.alloc _) ⟨wr.heap.size, 0, none⟩ 1 1 [.int .u8 ((z : Int) % 128 + 128)] rfl rfl (cell_one_new _ _ _) (by simp [Value.oneCell']) (by unfold maxLen; omega) (by omega) (by simp; omega) ?_)
        intro v' w3 hown3 hgrow _
        have HV3 := OutB.push HVV.out (Nat.le_refl _) _ _ hown3 hgrow
        clear hown3 hgrow hown
        go_wp2
        go_roundw
        case rel => exact ⟨z / 128, out ++ [((z % 128 + 128 : Nat) : Int)], by go_num, by omega, HN.out, by simpa using HV3⟩
        case measure => simp [intOf]; omega
      · have hb' : ¬ (128 : Int) ≤ (z : Int) := by omega
        have HN : Hid (R = out ++ [(z : Int)]) := by
          have h := HO.out
          rw [pkL_small hb] at h
          exact h.symm
        have v3 : IntKind.u8.wrap (z : Int) = (z : Int) := by simp [IntKind.wrap, IntKind.bits, IntKind.signed]; omega
        go_wp2_with (at_builtin; refine wpList_append_own _ rfl _ _ 22 rfl w.heap.size 5 i0 (.int .u8 0) 1 1 Tryz.underlying22 HI.out hz0 hz1 hz2 rfl (by decide) _ _ _ rfl (hown.alloc _) ⟨wr.heap.size, 0, none⟩ 1 1 [.int .u8 (z : Int)] rfl rfl (cell_one_new _ _ _) (by simp [Value.oneCell']) (by unfold maxLen; omega) (by omega) (by simp; omega) ?_)
        intro v' w3 hown3 hgrow _
        have HV3 := OutB.push HVV.out (Nat.le_refl _) _ _ hown3 hgrow
        clear hown3 hgrow hown
        obtain ⟨hown4, hbel, hsz⟩ := HV3
        rw [← HN.out] at hown4
        obtain ⟨hn4, A, c, rfl, hw4⟩ := Wr.of_own hown4
        have HW4 := Lib.hid hw4
        clear hown4 hw4
        go_wp2
        go_ret
        exact ⟨A, c, rfl, HW4.out, hbel⟩
set_option maxRecDepth 100000 in
set_option maxHeartbeats 2000000 in
/-- The reference's way: the bytes are appended to the caller's row. -/
theorem l27Put_any (w0 : World) (base : Nat) (pre : List Int) (v0 : Value) (n : Int) (w : World) (hv0 : OutB w0 base pre v0 w) (hb0 : w0.heap.size ≤ base) (hp : pre.length ≤ 1000000) (n1 : -1000000000000000 ≤ n) (n2 : n ≤ 1000000000000000) :
    Calls Tryz.prog 104 #[v0, .int .i64 n] w fun e w' => ∃ v', e = .returned v' ∧ OutB w0 base (pre ++ pkL (zigN n)) v' w' := by
  obtain ⟨i0, hi, hz0, hz1, hz2⟩ := info_parts info8
  have HI := Lib.hid hi
  have hlen : (pre ++ pkL (zigN n)).length ≤ 1000010 := by have := pkL_zig n1 n2; simp; omega
  obtain ⟨R, hR⟩ : ∃ R, pre ++ pkL (zigN n) = R := ⟨_, rfl⟩
  rw [hR] at hlen ⊢
  have HR : Hid (pre ++ pkL (zigN n) = R) := hR
  have HZ : Hid (zigN n = if n < 0 then (-2 * n - 1).toNat else (2 * n).toNat) := rfl
  have hzb : (zigN n : Int) ≤ 3000000000000000 := by unfold zigN; split <;> omega
  have HV0 := Lib.hid hv0
  clear hR hi hv0
  generalize zigN n = Z at *
  have u1 : IntKind.i64.wrap (2 * n) = 2 * n := IntWalk.i64_in _ (by omega)
  have u2 : IntKind.i64.wrap (-2 * n) = -2 * n := IntWalk.i64_in _ (by omega)
  have u3 : IntKind.i64.wrap (-2 * n - 1) = -2 * n - 1 := IntWalk.i64_in _ (by omega)
  by_cases hn : n < 0
  · have u4 : -2 * n - 1 = (Z : Int) := by have h := HZ.out; rw [if_pos hn] at h; omega
    rw [u4] at u3
    have HU := Lib.hid u4
    go_enter Tryz.func104, Tryz.ntmps104
    go_wp2_with fail
    clear u1 u2 u3 u4 hn HZ
    go_loopw [0, 5] (fun v t wr => ∃ (z : Nat) (out : List Int), t = .int .i64 z ∧ (z : Int) ≤ 3000000000000000 ∧ Hid (out ++ pkL z = R) ∧ OutB w0 base out v wr) (fun _ t _ => (intOf t).toNat)
    case atStart => exact ⟨Z, pre, (by first | rfl | (rw [HU.out])), hzb, HR.out, HV0.out⟩
    case round =>
      obtain ⟨z, out, rfl, z1, HO, HV⟩ := hrel
      clear HR hzb HV0
      have hout : out.length + 1 ≤ 1000010 := by
        have h := HO.out
        have h2 : (out ++ pkL z).length ≤ 1000010 := by rw [h]; exact hlen
        have h3 : 1 ≤ (pkL z).length := by rw [pkL]; split <;> simp
        simp at h2
        omega
      have HVV := Lib.hid HV
      have hown := HVV.out.1
      have hbz := HVV.out.2.2
      clear HV
      have z0 : (0 : Int) ≤ (z : Int) := by omega
      by_cases hb : 128 ≤ z
      · have hb' : (128 : Int) ≤ (z : Int) := by omega
        have HN : Hid ((out ++ [((z % 128 + 128 : Nat) : Int)]) ++ pkL (z / 128) = R) := by
          have h := HO.out
          rw [pkL_big hb] at h
          unfold Hid
          rw [List.append_assoc]
          exact h
        have v1 : IntKind.i64.wrap ((z : Int) % 128) = (z : Int) % 128 := IntWalk.i64_in _ (by omega)
        have v2 : IntKind.i64.wrap (128 + (z : Int) % 128) = 128 + (z : Int) % 128 := IntWalk.i64_in _ (by omega)
        have v3 : IntKind.u8.wrap (128 + (z : Int) % 128) = 128 + (z : Int) % 128 := by simp [IntKind.wrap, IntKind.bits, IntKind.signed]; omega
        have v4 : IntKind.i64.wrap ((z : Int) / 128) = (z : Int) / 128 := IntWalk.i64_in _ (by omega)
        have v5 : (z : Int).tmod 128 = (z : Int) % 128 := Int.tmod_eq_emod_of_nonneg (by omega)
        have v6 : (z : Int).tdiv 128 = (z : Int) / 128 := Int.tdiv_eq_ediv_of_nonneg (by omega)
        go_wp2_with (at_builtin; refine wpList_append_own _ rfl _ _ 22 rfl base 5 i0 (.int .u8 0) 1 1 Tryz.underlying22 HI.out hz0 hz1 hz2 rfl (by decide) _ _ _ rfl (hown.alloc _) ⟨wr.heap.size, 0, none⟩ 1 1 [.int .u8 (128 + (z : Int) % 128)] rfl rfl (cell_one_new _ _ _) (by simp [Value.oneCell']) (by unfold maxLen; omega) (by omega) (by simp; omega) ?_)
        intro v' w3 hown3 hgrow _
        have HV3 := OutB.push HVV.out hb0 _ _ hown3 hgrow
        clear hown3 hgrow hown
        go_wp2
        go_roundw
        case rel => exact ⟨z / 128, out ++ [((z % 128 + 128 : Nat) : Int)], by go_num, by omega, HN.out, by rw [show ((z % 128 + 128 : Nat) : Int) = 128 + (z : Int) % 128 by omega]; exact HV3⟩
        case measure => simp [intOf]; omega
      · have hb' : ¬ (128 : Int) ≤ (z : Int) := by omega
        have HN : Hid (R = out ++ [(z : Int)]) := by
          have h := HO.out
          rw [pkL_small hb] at h
          exact h.symm
        have v3 : IntKind.u8.wrap (z : Int) = (z : Int) := by simp [IntKind.wrap, IntKind.bits, IntKind.signed]; omega
        go_wp2_with (at_builtin; refine wpList_append_own _ rfl _ _ 22 rfl base 5 i0 (.int .u8 0) 1 1 Tryz.underlying22 HI.out hz0 hz1 hz2 rfl (by decide) _ _ _ rfl (hown.alloc _) ⟨wr.heap.size, 0, none⟩ 1 1 [.int .u8 (z : Int)] rfl rfl (cell_one_new _ _ _) (by simp [Value.oneCell']) (by unfold maxLen; omega) (by omega) (by simp; omega) ?_)
        intro v' w3 hown3 hgrow _
        have HV3 := Lib.hid (OutB.push HVV.out hb0 _ _ hown3 hgrow)
        clear hown3 hgrow hown
        go_wp2
        go_ret
        rw [HN.out]
        exact ⟨v', rfl, HV3.out⟩
  · have u4 : 2 * n = (Z : Int) := by have h := HZ.out; rw [if_neg hn] at h; omega
    have HU := Lib.hid u4
    go_enter Tryz.func104, Tryz.ntmps104
    go_wp2_with fail
    clear u1 u2 u3 u4 hn HZ
    go_loopw [0, 5] (fun v t wr => ∃ (z : Nat) (out : List Int), t = .int .i64 z ∧ (z : Int) ≤ 3000000000000000 ∧ Hid (out ++ pkL z = R) ∧ OutB w0 base out v wr) (fun _ t _ => (intOf t).toNat)
    case atStart => exact ⟨Z, pre, (by first | rfl | (rw [HU.out])), hzb, HR.out, HV0.out⟩
    case round =>
      obtain ⟨z, out, rfl, z1, HO, HV⟩ := hrel
      clear HR hzb HV0
      have hout : out.length + 1 ≤ 1000010 := by
        have h := HO.out
        have h2 : (out ++ pkL z).length ≤ 1000010 := by rw [h]; exact hlen
        have h3 : 1 ≤ (pkL z).length := by rw [pkL]; split <;> simp
        simp at h2
        omega
      have HVV := Lib.hid HV
      have hown := HVV.out.1
      have hbz := HVV.out.2.2
      clear HV
      have z0 : (0 : Int) ≤ (z : Int) := by omega
      by_cases hb : 128 ≤ z
      · have hb' : (128 : Int) ≤ (z : Int) := by omega
        have HN : Hid ((out ++ [((z % 128 + 128 : Nat) : Int)]) ++ pkL (z / 128) = R) := by
          have h := HO.out
          rw [pkL_big hb] at h
          unfold Hid
          rw [List.append_assoc]
          exact h
        have v1 : IntKind.i64.wrap ((z : Int) % 128) = (z : Int) % 128 := IntWalk.i64_in _ (by omega)
        have v2 : IntKind.i64.wrap (128 + (z : Int) % 128) = 128 + (z : Int) % 128 := IntWalk.i64_in _ (by omega)
        have v3 : IntKind.u8.wrap (128 + (z : Int) % 128) = 128 + (z : Int) % 128 := by simp [IntKind.wrap, IntKind.bits, IntKind.signed]; omega
        have v4 : IntKind.i64.wrap ((z : Int) / 128) = (z : Int) / 128 := IntWalk.i64_in _ (by omega)
        have v5 : (z : Int).tmod 128 = (z : Int) % 128 := Int.tmod_eq_emod_of_nonneg (by omega)
        have v6 : (z : Int).tdiv 128 = (z : Int) / 128 := Int.tdiv_eq_ediv_of_nonneg (by omega)
        go_wp2_with (at_builtin; refine wpList_append_own _ rfl _ _ 22 rfl base 5 i0 (.int .u8 0) 1 1 Tryz.underlying22 HI.out hz0 hz1 hz2 rfl (by decide) _ _ _ rfl (hown.alloc _) ⟨wr.heap.size, 0, none⟩ 1 1 [.int .u8 (128 + (z : Int) % 128)] rfl rfl (cell_one_new _ _ _) (by simp [Value.oneCell']) (by unfold maxLen; omega) (by omega) (by simp; omega) ?_)
        intro v' w3 hown3 hgrow _
        have HV3 := OutB.push HVV.out hb0 _ _ hown3 hgrow
        clear hown3 hgrow hown
        go_wp2
        go_roundw
        case rel => exact ⟨z / 128, out ++ [((z % 128 + 128 : Nat) : Int)], by go_num, by omega, HN.out, by rw [show ((z % 128 + 128 : Nat) : Int) = 128 + (z : Int) % 128 by omega]; exact HV3⟩
        case measure => simp [intOf]; omega
      · have hb' : ¬ (128 : Int) ≤ (z : Int) := by omega
        have HN : Hid (R = out ++ [(z : Int)]) := by
          have h := HO.out
          rw [pkL_small hb] at h
          exact h.symm
        have v3 : IntKind.u8.wrap (z : Int) = (z : Int) := by simp [IntKind.wrap, IntKind.bits, IntKind.signed]; omega
        go_wp2_with (at_builtin; refine wpList_append_own _ rfl _ _ 22 rfl base 5 i0 (.int .u8 0) 1 1 Tryz.underlying22 HI.out hz0 hz1 hz2 rfl (by decide) _ _ _ rfl (hown.alloc _) ⟨wr.heap.size, 0, none⟩ 1 1 [.int .u8 (z : Int)] rfl rfl (cell_one_new _ _ _) (by simp [Value.oneCell']) (by unfold maxLen; omega) (by omega) (by simp; omega) ?_)
        intro v' w3 hown3 hgrow _
        have HV3 := Lib.hid (OutB.push HVV.out hb0 _ _ hown3 hgrow)
        clear hown3 hgrow hown
        go_wp2
        go_ret
        rw [HN.out]
        exact ⟨v', rfl, HV3.out⟩
set_option maxRecDepth 100000 in
set_option maxHeartbeats 2000000 in
theorem checksum_any (A : Option Addr) (c : Nat) (xs : List Int) (w : World) (hr : Rd (Value.int .u8) w w.heap.size A xs) (hb : ∀ x ∈ xs, 0 ≤ x ∧ x ≤ 255) (hl : xs.length ≤ 1000000000) :
    Calls Tryz.prog 59 #[.slice A xs.length c] w fun e w' => e = .returned (.int .i64 (ckS xs 1)) ∧ Below w.heap.size w w' := by
  obtain ⟨R, hR⟩ : ∃ R, ckS xs 1 = R := ⟨_, rfl⟩
  have HR : Hid (ckS (xs.drop 0) 1 = R) := hR
  rw [hR]
  have HB := Lib.hid hb
  clear hR hb
  go_enter Tryz.func59, Tryz.ntmps59
  go_wp2_with fail
  go_loopw [3, 8] (fun s t wr => ∃ (k : Nat) (m : Int), k ≤ xs.length ∧ s = .int .i64 m ∧ t = .int .i64 k ∧ 0 ≤ m ∧ m ≤ 65521 ∧ Hid (ckS (xs.drop k) m = R) ∧ Below w.heap.size w wr) (fun _ t _ => xs.length - (intOf t).toNat)
  case atStart => exact ⟨0, 1, by omega, rfl, rfl, by omega, by omega, HR.out, Below.refl _ _⟩
  case round =>
    obtain ⟨k, m, hk, rfl, rfl, m1, m2, HC, hbe⟩ := hrel
    clear HR
    by_cases hlt : k < xs.length
    · obtain ⟨b, off, rfl, hbl, hc⟩ := (hr.below hbe) (by omega)
      obtain ⟨x, hx⟩ : ∃ x, xs[k]? = some x := ⟨_, List.getElem?_eq_getElem hlt⟩
      have c1 := hc k x hx
      obtain ⟨x1, x2⟩ := HB.out x (List.mem_of_getElem? hx)
      have HS := Lib.hid (ckS_step (s := m) hx)
      have i0 : (0 : Int) ≤ (k : Int) := by omega
      have i1 : (k : Int) < (xs.length : Int) := by omega
      have v1 : IntKind.i64.wrap (257 * m) = 257 * m := IntWalk.i64_in _ (by omega)
      have v2 : IntKind.i64.wrap x = x := IntWalk.i64_in _ (by omega)
      have v3 : IntKind.i64.wrap (257 * m + x) = 257 * m + x := IntWalk.i64_in _ (by omega)
      have v4 : (257 * m + x).tmod 65521 = (257 * m + x) % 65521 := Int.tmod_eq_emod_of_nonneg (by omega)
      have v5 : IntKind.i64.wrap ((257 * m + x) % 65521) = (257 * m + x) % 65521 := IntWalk.i64_in _ (by omega)
      have HN : Hid (ckS (xs.drop (k + 1)) ((257 * m + x) % 65521) = R) := by rw [← HS.out]; exact HC.out
      clear hc hx HS HC
      go_wp2
      go_roundw
      case rel => exact ⟨k + 1, (257 * m + x) % 65521, by omega, rfl, by go_num, by omega, by omega, HN.out, by first | exact hbe | exact hbe.drew | exact ext_drew hbe⟩
      case measure => simp [intOf]; omega
    · have HF : Hid (R = m) := by
        have h := HC.out
        rw [ckS_end hlt] at h
        exact h.symm
      have i1 : ¬ (k : Int) < (xs.length : Int) := by omega
      go_wp2
      go_ret
      exact ⟨by rw [HF.out]; rfl, hbe⟩
set_option maxRecDepth 100000 in
set_option maxHeartbeats 2000000 in
theorem l27Sum_any (s : ByteArray) (w : World) (hs : s.size ≤ 1000000000) : Calls Tryz.prog 65 #[.string s] w fun e w' => e = .returned (.int .i64 (ckS (byI s) 1)) ∧ w = w' := by
  obtain ⟨R, hR⟩ : ∃ R, ckS (byI s) 1 = R := ⟨_, rfl⟩
  have HR : Hid (ckS ((byI s).drop 0) 1 = R) := hR
  rw [hR]
  have hlen := byI_length s
  clear hR
  go_enter Tryz.func65, Tryz.ntmps65
  go_wp2_with fail
  go_loop [3, 4] (fun t u => ∃ (k : Nat) (m : Int), k ≤ s.size ∧ t = .int .i64 m ∧ u = .int .i64 k ∧ 0 ≤ m ∧ m ≤ 65521 ∧ Hid (ckS ((byI s).drop k) m = R)) (fun _ u => s.size - (intOf u).toNat)
  case atStart => exact ⟨0, 1, by omega, rfl, rfl, by omega, by omega, HR.out⟩
  case round =>
    obtain ⟨k, m, hk, rfl, rfl, m1, m2, HC⟩ := hrel
    clear HR
    by_cases hlt : k < s.size
    · have HS := Lib.hid (ckS_step (s := m) (byI_get hlt))
      have x2 : ((s[k]).toNat : Int) ≤ 255 := by have := (s[k]).toNat_lt; omega
      have x1 : (0 : Int) ≤ ((s[k]).toNat : Int) := by omega
      have v1 : IntKind.i64.wrap (m * 257) = m * 257 := IntWalk.i64_in _ (by omega)
      have v2 : IntKind.i64.wrap ((s[k]).toNat : Int) = ((s[k]).toNat : Int) := IntWalk.i64_in _ (by omega)
      have v3 : IntKind.i64.wrap (m * 257 + ((s[k]).toNat : Int)) = m * 257 + ((s[k]).toNat : Int) := IntWalk.i64_in _ (by omega)
      have v4 : (m * 257 + ((s[k]).toNat : Int)).tmod 65521 = (m * 257 + ((s[k]).toNat : Int)) % 65521 := Int.tmod_eq_emod_of_nonneg (by omega)
      have v5 : IntKind.i64.wrap ((m * 257 + ((s[k]).toNat : Int)) % 65521) = (m * 257 + ((s[k]).toNat : Int)) % 65521 := IntWalk.i64_in _ (by omega)
      have HN : Hid (ckS ((byI s).drop (k + 1)) ((m * 257 + ((s[k]).toNat : Int)) % 65521) = R) := by
        rw [Int.mul_comm m 257, ← HS.out]; exact HC.out
      clear HS HC
      go_wp2_with fail
      go_round
      case rel => exact ⟨k + 1, (m * 257 + ((s[k]).toNat : Int)) % 65521, by omega, rfl, by go_num, by omega, by omega, HN.out⟩
      case measure => simp [intOf]; omega
    · have HF : Hid (R = m) := by
        have h := HC.out
        rw [ckS_end (by omega)] at h
        exact h.symm
      go_wp2_with fail
      go_ret
      exact ⟨by rw [HF.out]; rfl, rfl⟩
theorem ckS_bd : ∀ (xs : List Int) (s : Int), (∀ x ∈ xs, 0 ≤ x ∧ x ≤ 255) → 0 ≤ s → s ≤ 65521 → 0 ≤ ckS xs s ∧ ckS xs s ≤ 65521
  | [], s, _, h1, h2 => ⟨h1, h2⟩
  | x :: xs, s, hb, h1, h2 => by
    have := hb x (by simp)
    exact ckS_bd xs _ (fun y hy => hb y (by simp [hy])) (by omega) (by omega)
/-- A packed text: the bytes and their sum. -/
def endB (xs : List Int) : ByteArray := byS (xs ++ [ckS xs 1 / 256, ckS xs 1 % 256])
set_option maxRecDepth 100000 in
set_option maxHeartbeats 2000000 in
theorem l27Ended_any (w0 : World) (base : Nat) (xs : List Int) (v0 : Value) (w : World) (hv0 : OutB w0 base xs v0 w) (hb0 : w0.heap.size ≤ base) (hl : xs.length ≤ 1000000) (h0 : 0 < xs.length) (hb : ∀ x ∈ xs, 0 ≤ x ∧ x ≤ 255) :
    Calls Tryz.prog 62 #[v0] w fun e w' => e = .returned (.string (endB xs)) ∧ Below w0.heap.size w0 w' := by
  obtain ⟨i0, hi, hz0, hz1, hz2⟩ := info_parts info8
  have HI := Lib.hid hi
  obtain ⟨k1, k2⟩ := ckS_bd xs 1 hb (by omega) (by omega)
  have hsum := Lib.hid (fun W : World => l27Sum_any (byS xs) W (by rw [byS_size]; omega))
  rw [byI_byS hb] at hsum
  have HE : Hid (endB xs = byS (xs ++ [ckS xs 1 / 256, ckS xs 1 % 256])) := rfl
  obtain ⟨hn, A, c, rfl, hw⟩ := Wr.of_own hv0.1
  have hcv := conv_bytes (c := c) hw.rd hb h0
  have hb2 : Hid (∀ x ∈ xs ++ [ckS xs 1 / 256, ckS xs 1 % 256], 0 ≤ x ∧ x ≤ 255) := by
    intro x hx
    rcases List.mem_append.1 hx with h | h
    · exact hb x h
    · simp only [List.mem_cons, List.not_mem_nil, or_false] at h
      rcases h with rfl | rfl <;> omega
  have HB := Lib.hid hb
  clear hw hb hi
  generalize ckS xs 1 = s at *
  have HV := Lib.hid hv0
  have hown := hv0.1
  have hbz := hv0.2.2
  clear hv0
  have v1 : IntKind.u8.wrap (s / 256) = s / 256 := by simp [IntKind.wrap, IntKind.bits, IntKind.signed] <;> omega
  have v2 : IntKind.u8.wrap (s % 256) = s % 256 := by simp [IntKind.wrap, IntKind.bits, IntKind.signed] <;> omega
  have v3 : s.tdiv 256 = s / 256 := Int.tdiv_eq_ediv_of_nonneg (by omega)
  have v4 : s.tmod 256 = s % 256 := Int.tmod_eq_emod_of_nonneg (by omega)
  have v5 : IntKind.i64.wrap (s / 256) = s / 256 := IntWalk.i64_in _ (by omega)
  have v6 : IntKind.i64.wrap (s % 256) = s % 256 := IntWalk.i64_in _ (by omega)
  go_enter Tryz.func62, Tryz.ntmps62
  go_wp2_with fail
  refine (hsum.out _).mono ?_
  rintro e w' ⟨rfl, rfl⟩
  go_wp2_with (at_builtin; refine wpList_append_own _ rfl _ _ 22 rfl base 5 i0 (.int .u8 0) 1 1 Tryz.underlying22 HI.out hz0 hz1 hz2 rfl (by decide) _ _ _ rfl (hown.alloc _) ⟨w.heap.size, 0, none⟩ 2 2 [.int .u8 (s / 256), .int .u8 (s % 256)] rfl rfl ?c1 ?c2 ?c3 ?c4 ?c5 ?_)
  case c1 => exact news_row w _ _ rfl
  case c2 => simp [Value.oneCell']
  case c3 => unfold maxLen; omega
  case c4 => omega
  case c5 => simp; omega
  intro v' w3 hown3 hgrow _
  have hown4 : w3.ownsRow base 5 1 v' (xs.length + 2) ((xs ++ [s / 256, s % 256]).map (Value.int .u8)) := by simpa using hown3
  obtain ⟨hn4, A4, c4, rfl, hw4⟩ := Wr.of_own hown4
  have hcv4 := conv_bytes (c := c4) hw4.rd hb2.out (by simp)
  rw [← hn4, ← HE.out] at hcv4
  have HBW := Lib.hid (below_grown (ext_alloc HV.out.2.1 (.cells #[.int .u8 (s / 256), .int .u8 (s % 256)] 5)) (hown.alloc _) hb0 hgrow)
  clear hown4 hown3 hgrow hw4 hown hn4 hcv
  generalize hEE : endB xs = E at *
  have HEE := Lib.hid hEE
  clear hEE
  go_wp2
  go_ret
  exact ⟨by rw [HEE.out]; rfl, HBW.out⟩
end Go.Proofs.YtpnabggpdgjbmaaGreatDoor
