/- Texts cut at a byte: both walks. No condition but those that each theorem names. -/
import Derived.Test.YtbcikkaoohihhaaGreatDoorNumW
import Derived.Test.YtbcikkaoohihhaaGreatDoorDeskW
import Derived.Deep.LoopGhost
namespace Go.Proofs.YtbcikkaoohihhaaGreatDoor
open Go.RowKit Go.Sort

theorem below_drewNS {B n : Nat} {w w' : World} (h : Below B w w') : Below B w (w'.drewN n) := ⟨h.os, h.tape, h.output, h.size, h.block⟩
/-- A list of strings on its way. -/
def OutT (w : World) (base : Nat) (out : List ByteArray) (v : Value) (wr : World) : Prop :=
  wr.ownsRow base 9 1 v out.length (out.map Value.string) ∧ Below w.heap.size w wr ∧ base ≤ wr.heap.size
theorem OutT.push {w : World} {base : Nat} {out : List ByteArray} {v : Value} {wr : World} (h : OutT w base out v wr) (hbase : w.heap.size ≤ base) {t : ByteArray} (v' : Value) (w3 : World) {o : Obj}
    (hown3 : w3.ownsRow base 9 1 v' (out.length + 1) (out.map Value.string ++ [.string t])) (hg : (wr.alloc o).grownBy w3 v.ownBlock) : OutT w base (out ++ [t]) v' w3 := by
  obtain ⟨hown, hbel, hsz⟩ := h
  refine ⟨by simpa using hown3, below_grown (ext_alloc hbel o) (hown.alloc o) hbase hg, ?_⟩
  have := hg.size
  simp at this
  omega
theorem OutT.next {w : World} {base : Nat} {out : List ByteArray} {v : Value} {wr w2 : World} (h : OutT w base out v wr) (hb : Below wr.heap.size wr w2) : OutT w base out v w2 :=
  ⟨own_below h.1 hb, ext_trans h.2.1 hb, Nat.le_trans h.2.2 hb.size⟩
theorem OutT.start (w : World) : OutT w w.heap.size [] (.slice (some ⟨w.heap.size, 0, none⟩) 0 0) (w.alloc (.cells #[] 9)) := by
  refine ⟨?_, ext1 _ _, by simp⟩
  have h := World.ownsRow_lit (base := w.heap.size) (e := 9) (size := 1) w #[] 0 (by simp) (by simp) rfl
  simpa using h
theorem OutT.ret {w : World} {out : List ByteArray} {v : Value} {wr : World} (h : OutT w w.heap.size out v wr) : RetStrs w out (.returned v) wr := by
  obtain ⟨_, A, c, rfl, hw⟩ := Wr.of_own h.1
  exact ⟨A, c, rfl, hw, h.2.1⟩
theorem ext_snoc {s : ByteArray} {a k : Nat} (h : a ≤ k) (hk : k < s.size) : (s.extract a (k + 1)).data.toList = (s.extract a k).data.toList ++ [s[k]] := by
  have hg := bytes_get hk
  rw [ext_list, ext_list, show k + 1 - a = (k - a) + 1 by omega, List.take_add_one, List.getElem?_drop, show a + (k - a) = k by omega, hg]
  rfl
theorem ext_none (s : ByteArray) (k : Nat) : (s.extract k k).data.toList = [] := by
  rw [ext_list, Nat.sub_self, List.take_zero]
/-- Parts as strings. -/
def mkB (l : List UInt8) : ByteArray := ⟨l.toArray⟩
theorem mkB_ext (s : ByteArray) (a b : Nat) : mkB (s.extract a b).data.toList = s.extract a b := back_bytes _
theorem Split_any (s : ByteArray) (c : UInt8) (w : World) (hs : s.size < 4294967281) (hV : Vars w) :
    Calls Tryz.prog 129 #[.string s, .string ⟨#[c]⟩] w (RetStrs w (spB c s)) := by
  obtain ⟨m, hm⟩ := hV.len
  refine (Tryz.strings_Split s ⟨#[c]⟩ m w hs hm (Nat.le_refl 1)).mono ?_
  rintro e w' ⟨rfl, rfl⟩
  refine ⟨some ⟨w.heap.size, 0, none⟩, Lib.countB s ⟨#[c]⟩ + 1, by rw [spB_len], ?_, ext1 _ _⟩
  refine Wr.lit w ?_
  rw [splitB_spB]
theorem Split_at (s : ByteArray) (c : UInt8) (w : World) (hs : s.size < 4294967281) (hV : Vars w) :
    Calls Tryz.prog 129 #[.string s, .string ⟨#[c]⟩] w fun e w' => e = .returned (.slice (some ⟨w.heap.size, 0, none⟩) (spB c s).length (spB c s).length) ∧ (∀ j x, (spB c s)[j]? = some x → w'.cell? ⟨w.heap.size, j, none⟩ = some (.string x)) ∧ Below w.heap.size w w' ∧ w.heap.size < w'.heap.size := by
  obtain ⟨m, hm⟩ := hV.len
  refine (Tryz.strings_Split s ⟨#[c]⟩ m w hs hm (Nat.le_refl 1)).mono ?_
  rintro e w' ⟨rfl, rfl⟩
  refine ⟨by rw [spB_len], fun j x hx => ?_, ext1 _ _, by simp⟩
  rw [cell_one, splitB_spB]
  simp [hx]
set_option maxRecDepth 100000 in
set_option maxHeartbeats 2000000 in
theorem l01Split_any (s : ByteArray) (c : UInt8) (m : Int) (hm : (c.toNat : Int) = m) (w : World) (hs : s.size ≤ 1000000000000) :
    Calls Tryz.prog 34 #[.string s, .int .u8 m] w (RetStrs w (spB c s)) := by
  obtain ⟨ti, hi, hz0, hz1, hz2⟩ := info_parts infoS
  have HI := Lib.hid hi
  obtain ⟨R, hR⟩ : ∃ R, spB c s = R := ⟨_, rfl⟩
  rw [hR]
  have HR : Hid ((spA c [] (s.data.toList.drop 0)).map mkB = R) := hR
  clear hi hR
  have O := Lib.hid (OutT.start w)
  go_enter Tryz.func34, Tryz.ntmps34
  go_wp2_with fail
  go_loopw [5, 6, 7] (fun v f t wr => ∃ (k a : Nat) (out : List ByteArray), a ≤ k ∧ k ≤ s.size ∧ out.length ≤ k ∧ f = .int .i64 a ∧ t = .int .i64 k ∧ Hid (out ++ (spA c (s.extract a k).data.toList (s.data.toList.drop k)).map mkB = R) ∧ Hid (OutT w w.heap.size out v wr)) (fun _ _ t _ => s.size - (intOf t).toNat)
  case atStart => exact ⟨0, 0, [], by omega, by omega, by simp, rfl, rfl, by unfold Hid; rw [ext_none]; exact HR.out, O.out⟩
  case round =>
    obtain ⟨k, a, out, hak, hk, ho, rfl, rfl, HK, HO⟩ := hrel
    clear HR O
    by_cases hlt : k < s.size
    · have hdr : s.data.toList.drop k = s[k] :: s.data.toList.drop (k + 1) := by
        have hl := size_list s
        exact List.drop_eq_getElem_cons (l := s.data.toList) (i := k) (by omega)
      have i0 : (0 : Int) ≤ (k : Int) := by omega
      have i1 : (k : Int) < (s.size : Int) := by omega
      by_cases hc : s[k] = c
      · have hcm : (((s[k]).toNat : Int) == m) = true := by rw [hc, hm]; simp
        have HE : Hid ((out ++ [s.extract a k]) ++ (spA c (s.extract (k + 1) (k + 1)).data.toList (s.data.toList.drop (k + 1))).map mkB = R) := by
          have h := HK.out
          rw [hdr, spA, if_pos hc, List.map_cons, mkB_ext] at h
          unfold Hid
          rw [ext_none, List.append_assoc]
          exact h
        have hown := HO.out.1
        have hbz := HO.out.2.2
        clear hdr hc hm HK
        go_wp2_with (at_builtin; refine wpList_append_own _ rfl _ _ 55 rfl w.heap.size 9 ti (.string ByteArray.empty) 1 16 Tryz.underlying55 HI.out hz0 hz1 hz2 rfl (by decide) _ _ _ rfl (hown.alloc _) ⟨wr.heap.size, 0, none⟩ 1 1 [.string (s.extract a k)] rfl rfl ?c1 ?c2 ?c3 ?c4 ?c5 ?_)
        case c1 => exact cell_one_new _ _ _
        case c2 => simp [Value.oneCell']
        case c3 => unfold maxLen; omega
        case c4 => omega
        case c5 => simp; omega
        intro v' w3 hown3 hgrow _
        have HV3 := Lib.hid (OutT.push HO.out (Nat.le_refl _) _ _ hown3 hgrow)
        clear hown3 hgrow hown HO
        go_wp2
        go_roundw
        case rel => exact ⟨k + 1, k + 1, out ++ [s.extract a k], by omega, by omega, by simp; omega, by go_num, by go_num, HE.out, HV3.out⟩
        case measure => simp [intOf]; omega
      · have hcm : (((s[k]).toNat : Int) == m) = false := by
          rw [beq_eq_false_iff_ne]
          intro e
          exact hc (UInt8.toNat_inj.1 (by omega))
        have HE : Hid (out ++ (spA c (s.extract a (k + 1)).data.toList (s.data.toList.drop (k + 1))).map mkB = R) := by
          have h := HK.out
          rw [hdr, spA, if_neg hc] at h
          unfold Hid
          rw [ext_snoc hak hlt]
          exact h
        clear hdr hc hm HK
        go_wp2
        go_roundw
        case rel => exact ⟨k + 1, a, out, by omega, by omega, by omega, rfl, by go_num, HE.out, HO.out⟩
        case measure => simp [intOf]; omega
    · have hkl : k = s.size := by omega
      have HE : Hid (out ++ [s.extract a s.size] = R) := by
        have h := HK.out
        rw [hkl, List.drop_of_length_le (by rw [size_list]; omega)] at h
        simp only [spA, List.map_cons, List.map_nil, mkB_ext] at h
        exact h
      have hown := HO.out.1
      have hbz := HO.out.2.2
      have ia : (0 : Int) ≤ (a : Int) := by omega
      have ib : (a : Int) ≤ (s.size : Int) := by omega
      clear hkl HK hm
      go_wp2_with (at_builtin; refine wpList_append_own _ rfl _ _ 55 rfl w.heap.size 9 ti (.string ByteArray.empty) 1 16 Tryz.underlying55 HI.out hz0 hz1 hz2 rfl (by decide) _ _ _ rfl (hown.alloc _) ⟨wr.heap.size, 0, none⟩ 1 1 [.string (s.extract a s.size)] rfl rfl ?c1 ?c2 ?c3 ?c4 ?c5 ?_)
      case c1 => exact cell_one_new _ _ _
      case c2 => simp [Value.oneCell']
      case c3 => unfold maxLen; omega
      case c4 => omega
      case c5 => simp; omega
      intro v' w3 hown3 hgrow _
      have HV3 := Lib.hid (OutT.push HO.out (Nat.le_refl _) _ _ hown3 hgrow)
      clear hown3 hgrow hown HO
      have HF : Hid (RetStrs w R (.returned v') w3) := by
        have h := HV3.out.ret
        rw [HE.out] at h
        exact h
      go_wp2
      go_ret
      exact HF.out
end Go.Proofs.YtbcikkaoohihhaaGreatDoor
