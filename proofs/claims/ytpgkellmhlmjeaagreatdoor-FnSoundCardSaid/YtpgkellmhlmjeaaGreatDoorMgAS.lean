/- ClaimOf: both walks. No condition but those that each theorem names. -/
import Derived.Test.YtpgkellmhlmjeaaGreatDoorMgAR
import Derived.Test.YtpgkellmhlmjeaaGreatDoorMgAG
import Derived.Deep.DeepCutAuto
namespace Go.Proofs.YtpgkellmhlmjeaaGreatDoor
open Go.RowKit Go.Sort
/-- What the texts of the numbers hold up to k. -/
def CpS (w : World) (b0 h : Nat) (cb : List Value) (ds : List ByteArray) (k : Nat) (W : World) : Prop :=
  (∀ j d, j < k → ds[j]? = some d → W.cell? ⟨h, j, none⟩ = some (.string d)) ∧ (∀ j, j < ds.length → ∃ v, W.cell? ⟨h, j, none⟩ = some v) ∧ (∀ j, W.frozen? ⟨h, j, none⟩ = false) ∧ Below w.heap.size w W ∧ h < W.heap.size ∧ BoxV b0 cb W ∧ b0 ≠ h
section
variable {w W W' : World} {b0 h : Nat} {cb : List Value} {ds : List ByteArray} {k : Nat}
theorem CpS.next (hc : CpS w b0 h cb ds k W) (hb : Below W.heap.size W W') : CpS w b0 h cb ds k W' := by
  obtain ⟨h1, h2, h3, h4, h5, h6, h7⟩ := hc
  exact ⟨fun j d hj hx => (hb.cell (p := ⟨h, j, none⟩) h5).trans (h1 j d hj hx), fun j hj => (h2 j hj).imp fun v hv => (hb.cell (p := ⟨h, j, none⟩) h5).trans hv, fun j => (hb.frozen (p := ⟨h, j, none⟩) h5).trans (h3 j), h4.trans (hb.mono h4.size), Nat.lt_of_lt_of_le h5 hb.size, h6.next hb, h7⟩
theorem CpS.set {d : ByteArray} (hc : CpS w b0 h cb ds k W) (hw : w.heap.size ≤ h) (hk : k < ds.length) (hx : ds[k]? = some d) : CpS w b0 h cb ds (k + 1) (W.setCell ⟨h, k, none⟩ (.string d)) := by
  obtain ⟨h1, h2, h3, h4, h5, h6, h7⟩ := hc
  obtain ⟨v0, hv0⟩ := h2 k hk
  refine ⟨fun j y hj hy => ?_, fun j hj => ?_, fun j => (World.frozen?_setCell _ _ _ _).trans (h3 j), h4.setCell hw _, by simpa using h5, h6.setFar _ (fun e => h7 e.symm), h7⟩
  · rcases Nat.lt_or_ge j k with g | g
    · exact (World.cell?_setCell_other _ _ _ _ (by simp <;> omega)).trans (h1 j y g hy)
    · obtain rfl : j = k := by omega
      obtain rfl := Option.some.inj (hx.symm.trans hy)
      exact World.cell?_setCell_same _ _ _ hv0
  · by_cases e : j = k
    · subst e; exact ⟨_, World.cell?_setCell_same _ _ _ hv0⟩
    · obtain ⟨u, hu⟩ := h2 j hj
      exact ⟨u, (World.cell?_setCell_other _ _ _ _ (by simp <;> omega)).trans hu⟩
end
theorem infoStrC : (Tryz.prog.info? 9).map (fun i => (i.zero, i.size, i.bytes)) = some (some (.string ByteArray.empty), 1, 16) := by kernel_rfl
set_option maxRecDepth 100000 in
set_option maxHeartbeats 4000000 in
theorem iClaimOf_any (kk : Int) (A : Option Addr) (c : Nat) (xs : List Int) (w : World) (hx : RdC w w.heap.size A c xs) (hm : xs.length ≤ maxLen) (hT : Tab10 w) :
    Calls Tryz.prog 9 #[certV kk A xs.length c] w fun e w' => e = .returned (.string (clB kk xs)) ∧ Below w.heap.size w w' := by
  have HX : Hid (∀ W, Below w.heap.size w W → Rd (Value.int .i64) W W.heap.size A xs) := fun W hb => (hx.1.below hb).more hb.size
  have HT : Hid (∀ W, Below w.heap.size w W → Tab10 W) := fun W hb => hT.next hb
  have HB : Hid (∀ W, Below w.heap.size w W → Calls Tryz.prog 7 #[certV kk A xs.length c] W fun e w' => e = .returned (.bool (ccB kk xs)) ∧ Below W.heap.size W w') := fun W hb => iCheckCertificate_any kk A c xs W ⟨HX.out W hb, hx.2⟩ hm
  have HE : Hid (clB kk xs = if ccB kk xs = true then clK kk xs else ⟨#[]⟩) := rfl
  cases hv : ccB kk xs
  · rw [hv] at HB HE
    simp only [Bool.false_eq_true, if_false] at HE
    generalize clB kk xs = R at *
    clear hx hT hv
    unfold certV at *
    go_enter Tryz.func9, Tryz.ntmps9
    go_wp2_with fail
    refine (HB.out _ (ext1 _ _)).mono ?_
    rintro e w1 ⟨rfl, hb1⟩
    go_wp2
    go_ret
    rw [HE.out]
    exact ⟨rfl, ext_trans (ext1 _ _) hb1⟩
  · rw [hv] at HB HE
    rw [if_pos rfl] at HE
    obtain ⟨⟨k1, k2⟩, ⟨hl, hbd⟩, hc1, hc2, hc3, hc4, hc5, hc6⟩ := cc_len hv
    have HBD := Lib.hid hbd
    have HCL := Lib.hid (And.intro hc1 (And.intro hc2 (And.intro hc3 (And.intro hc4 (And.intro hc5 hc6)))))
    have HKB : Hid (1 ≤ kk ∧ kk ≤ 6) := ⟨k1, k2⟩
    obtain ⟨ds, hds⟩ : ∃ ds, xs.map decB = ds := ⟨_, rfl⟩
    have hdl : ds.length = xs.length := by rw [← hds, List.length_map]
    have HDS : Hid (∀ j x, xs[j]? = some x → ds[j]? = some (decB x)) := fun j x h => by rw [← hds, List.getElem?_map, h]; rfl
    have HDL := Lib.hid hdl
    generalize clB kk xs = R at *
    obtain ⟨i0, hi, hz0, hz1, hz2⟩ := info_parts infoStrC
    have hmk : ∀ W : World, (Instr.makeSlice 64 (.int .i64 (xs.length : Int)) (.int .i64 (xs.length : Int))).run Tryz.prog W = .ok (.slice (some ⟨W.heap.size, 0, none⟩) xs.length xs.length) (W.alloc (.cells (madeCells #[.string ByteArray.empty] xs.length) 9)) := fun W => by
      have h := run_make (P := Tryz.prog) W 64 9 i0 _ Tryz.underlying64 hi hz0 .i64 .i64 (xs.length : Int) (xs.length : Int) (by omega) (by omega) (by rw [hz2]; omega) (by omega)
      rw [hz1] at h
      simpa [Value.cells] using h
    clear hx hT hv hbd hc1 hc2 hc3 hc4 hc5 hc6 k1 k2 hds hdl hi hz0 hz1 hz2
    unfold certV at *
    have HBX := Lib.hid (BoxV.new w #[.int .i64 kk, .slice A xs.length c] 26)
    have E0 := Lib.hid (ext1 w (.cells #[.int .i64 kk, .slice A xs.length c] 26))
    go_enter Tryz.func9, Tryz.ntmps9
    go_wp2_with fail
    generalize w.alloc (.cells #[.int .i64 kk, .slice A xs.length c] 26) = W0 at *
    refine (HB.out _ E0.out).mono ?_
    rintro e w1 ⟨rfl, hb1⟩
    have B1 := Lib.hid (HBX.out.next hb1)
    have E1 := Lib.hid (ext_trans E0.out hb1)
    have x0 := B1.out.at 0 _ rfl
    have x1 := B1.out.at 1 _ rfl
    have hlt1 := B1.out.lt
    clear hb1 HBX E0 HB
    have hms : (madeCells #[.string ByteArray.empty] xs.length).size = xs.length := size_madeCells _ _
    go_wp2_with fail
    obtain ⟨W, hW, hC⟩ : ∃ W, W = w1.alloc (.cells (madeCells #[.string ByteArray.empty] xs.length) 9) ∧ CpS w w.heap.size w1.heap.size [.int .i64 kk, .slice A xs.length c] ds 0 W :=
      ⟨_, rfl, fun _ _ h => absurd h (by omega), fun j hj => by
        rw [HDL.out] at hj
        refine ⟨(madeCells #[.string ByteArray.empty] xs.length)[j]'(by rw [hms]; exact hj), ?_⟩
        rw [World.cell?_alloc_at _ _ _ _ rfl]
        exact Array.getElem?_eq_getElem (by rw [hms]; exact hj), fun j => World.frozen?_alloc_at _ _ _ _ rfl, ext_alloc E1.out _, by simp, B1.out.alloc _, by omega⟩
    rw [← hW]
    clear hW hms x0 x1 B1 E1
    have HC := Lib.hid hC
    have hge : w.heap.size ≤ w1.heap.size := by omega
    generalize w1.heap.size = h at *
    clear hC hmk hlt1
    go_loopw [16, 4, 5] (fun t u v wr => ∃ i : Nat, i ≤ xs.length ∧ t = .int .i64 i ∧ Hid (CpS w w.heap.size h [.int .i64 kk, .slice A xs.length c] ds i wr)) (fun t _ _ _ => xs.length - (intOf t).toNat)
    case atStart => exact ⟨0, by omega, rfl, HC.out⟩
    case round =>
      obtain ⟨i, hi, rfl, HR⟩ := hrel
      clear HC
      by_cases hlt : i < xs.length
      · obtain ⟨b, off, rfl, hb, hcc⟩ := HX.out wr HR.out.2.2.2.1 (by omega)
        obtain ⟨x, hxi⟩ : ∃ x, xs[i]? = some x := ⟨_, List.getElem?_eq_getElem hlt⟩
        have cx := hcc i x hxi
        obtain ⟨b1, b2⟩ := HBD.out x (List.mem_of_getElem? hxi)
        have HD := Lib.hid (iDecimal_any x wr (by omega) (by omega) (HT.out wr HR.out.2.2.2.1))
        have HX2 := Lib.hid (HDS.out i x hxi)
        have hil : i < ds.length := by rw [HDL.out]; exact hlt
        generalize decB x = q at *
        have j0 : (0 : Int) ≤ (i : Int) := by omega
        have j1 : (i : Int) < (xs.length : Int) := by omega
        clear hcc hxi
        go_wp2_with fail
        refine HD.out.mono ?_
        rintro e w3 ⟨rfl, hb3⟩
        have HR3 := Lib.hid (HR.out.next hb3)
        obtain ⟨v0, hv0⟩ := HR3.out.2.1 i hil
        have hf0 := HR3.out.2.2.1 i
        have HS := Lib.hid (CpS.set HR3.out hge hil HX2.out)
        clear hb3 hil
        go_wp2
        go_roundw
        case rel => exact ⟨i + 1, by omega, by go_num, HS.out⟩
        case measure => simp [intOf]; omega
      · have hil : i = xs.length := by omega
        subst hil
        have y0 := HR.out.2.2.2.2.2.1.at 0 _ rfl
        have y1 := HR.out.2.2.2.2.2.1.at 1 _ rfl
        obtain ⟨hc1, hc2, hc3, hc4, hc5, hc6⟩ := HCL.out
        have hkk : kk = 1 ∨ kk = 2 ∨ kk = 3 ∨ kk = 4 ∨ kk = 5 ∨ kk = 6 := by have := HKB.out; omega
        clear HKB HCL
        rcases hkk with rfl | rfl | rfl | rfl | rfl | rfl
        · skip
          have hlk : 3 ≤ xs.length := hc1 rfl
          clear hc1 hc2 hc3 hc4 hc5 hc6
          obtain ⟨x0, hx0⟩ : ∃ x, xs[0]? = some x := ⟨_, List.getElem?_eq_getElem (by omega)⟩
          obtain ⟨b0, b0'⟩ := HBD.out x0 (List.mem_of_getElem? hx0)
          have z0 := decB_size (n := x0) (by omega) (by omega)
          have hd0 : dcX xs 0 = decB x0 := by unfold dcX; simp only [List.getD, hx0, Option.getD_some]
          obtain ⟨x1, hx1⟩ : ∃ x, xs[1]? = some x := ⟨_, List.getElem?_eq_getElem (by omega)⟩
          obtain ⟨b1, b1'⟩ := HBD.out x1 (List.mem_of_getElem? hx1)
          have z1 := decB_size (n := x1) (by omega) (by omega)
          have hd1 : dcX xs 1 = decB x1 := by unfold dcX; simp only [List.getD, hx1, Option.getD_some]
          obtain ⟨x2, hx2⟩ : ∃ x, xs[2]? = some x := ⟨_, List.getElem?_eq_getElem (by omega)⟩
          obtain ⟨b2, b2'⟩ := HBD.out x2 (List.mem_of_getElem? hx2)
          have z2 := decB_size (n := x2) (by omega) (by omega)
          have hd2 : dcX xs 2 = decB x2 := by unfold dcX; simp only [List.getD, hx2, Option.getD_some]
          have s0 := HR.out.1 0 (decB x0) (by omega) (HDS.out 0 x0 hx0)
          have s1 := HR.out.1 1 (decB x1) (by omega) (HDS.out 1 x1 hx1)
          have s2 := HR.out.1 2 (decB x2) (by omega) (HDS.out 2 x2 hx2)
          have HRK : Hid (R = cl1 (decB x0) (decB x1) (decB x2)) := by
            have h := HE.out
            rw [show clK 1 xs = cl1 (dcX xs 0) (dcX xs 1) (dcX xs 2) from rfl, hd0, hd1, hd2] at h
            exact h
          clear HE HX HT HDS HBD hd0 hx0 b0 b0' hd1 hx1 b1 b1' hd2 hx2 b2 b2'
          generalize decB x0 = d0 at *
          generalize decB x1 = d1 at *
          generalize decB x2 = d2 at *
          obtain ⟨t0, t1, t2, t3, t4⟩ := clz1 d0 d1 d2 z0 z1 z2
          have HBE := Lib.hid HR.out.2.2.2.1
          unfold cl1 at HRK
          have n0 : ((0 : Int) < (xs.length : Int)) := by omega
          have n1 : ((1 : Int) < (xs.length : Int)) := by omega
          have n2 : ((2 : Int) < (xs.length : Int)) := by omega
          go_wp2_with fail
          go_quiet (fail)
          go_wp2_with fail
          go_ret
          rw [HRK.out]
          exact ⟨rfl, below_drewN' HBE.out⟩
        · skip
          have hlk : 1 ≤ xs.length := hc2 rfl
          clear hc1 hc2 hc3 hc4 hc5 hc6
          obtain ⟨x0, hx0⟩ : ∃ x, xs[0]? = some x := ⟨_, List.getElem?_eq_getElem (by omega)⟩
          obtain ⟨b0, b0'⟩ := HBD.out x0 (List.mem_of_getElem? hx0)
          have z0 := decB_size (n := x0) (by omega) (by omega)
          have hd0 : dcX xs 0 = decB x0 := by unfold dcX; simp only [List.getD, hx0, Option.getD_some]
          have s0 := HR.out.1 0 (decB x0) (by omega) (HDS.out 0 x0 hx0)
          have HRK : Hid (R = cl2 (decB x0)) := by
            have h := HE.out
            rw [show clK 2 xs = cl2 (dcX xs 0) from rfl, hd0] at h
            exact h
          clear HE HX HT HDS HBD hd0 hx0 b0 b0'
          generalize decB x0 = d0 at *
          have t0 := clz2 d0 z0
          have HBE := Lib.hid HR.out.2.2.2.1
          unfold cl2 at HRK
          have n0 : ((0 : Int) < (xs.length : Int)) := by omega
          go_wp2_with fail
          go_ret
          rw [HRK.out]
          exact ⟨rfl, HBE.out⟩
        · skip
          have hlk : 3 ≤ xs.length := hc3 rfl
          clear hc1 hc2 hc3 hc4 hc5 hc6
          obtain ⟨x0, hx0⟩ : ∃ x, xs[0]? = some x := ⟨_, List.getElem?_eq_getElem (by omega)⟩
          obtain ⟨b0, b0'⟩ := HBD.out x0 (List.mem_of_getElem? hx0)
          have z0 := decB_size (n := x0) (by omega) (by omega)
          have hd0 : dcX xs 0 = decB x0 := by unfold dcX; simp only [List.getD, hx0, Option.getD_some]
          obtain ⟨x1, hx1⟩ : ∃ x, xs[1]? = some x := ⟨_, List.getElem?_eq_getElem (by omega)⟩
          obtain ⟨b1, b1'⟩ := HBD.out x1 (List.mem_of_getElem? hx1)
          have z1 := decB_size (n := x1) (by omega) (by omega)
          have hd1 : dcX xs 1 = decB x1 := by unfold dcX; simp only [List.getD, hx1, Option.getD_some]
          obtain ⟨x2, hx2⟩ : ∃ x, xs[2]? = some x := ⟨_, List.getElem?_eq_getElem (by omega)⟩
          obtain ⟨b2, b2'⟩ := HBD.out x2 (List.mem_of_getElem? hx2)
          have z2 := decB_size (n := x2) (by omega) (by omega)
          have hd2 : dcX xs 2 = decB x2 := by unfold dcX; simp only [List.getD, hx2, Option.getD_some]
          have s0 := HR.out.1 0 (decB x0) (by omega) (HDS.out 0 x0 hx0)
          have s1 := HR.out.1 1 (decB x1) (by omega) (HDS.out 1 x1 hx1)
          have s2 := HR.out.1 2 (decB x2) (by omega) (HDS.out 2 x2 hx2)
          have HRK : Hid (R = cl3 (decB x0) (decB x1) (decB x2)) := by
            have h := HE.out
            rw [show clK 3 xs = cl3 (dcX xs 0) (dcX xs 1) (dcX xs 2) from rfl, hd0, hd1, hd2] at h
            exact h
          clear HE HX HT HDS HBD hd0 hx0 b0 b0' hd1 hx1 b1 b1' hd2 hx2 b2 b2'
          generalize decB x0 = d0 at *
          generalize decB x1 = d1 at *
          generalize decB x2 = d2 at *
          obtain ⟨t0, t1, t2, t3, t4⟩ := clz3 d0 d1 d2 z0 z1 z2
          have HBE := Lib.hid HR.out.2.2.2.1
          unfold cl3 at HRK
          have n0 : ((0 : Int) < (xs.length : Int)) := by omega
          have n1 : ((1 : Int) < (xs.length : Int)) := by omega
          have n2 : ((2 : Int) < (xs.length : Int)) := by omega
          go_wp2_with fail
          go_quiet (fail)
          go_wp2_with fail
          go_ret
          rw [HRK.out]
          exact ⟨rfl, below_drewN' HBE.out⟩
        · skip
          have hlk : 3 ≤ xs.length := hc4 rfl
          clear hc1 hc2 hc3 hc4 hc5 hc6
          obtain ⟨x0, hx0⟩ : ∃ x, xs[0]? = some x := ⟨_, List.getElem?_eq_getElem (by omega)⟩
          obtain ⟨b0, b0'⟩ := HBD.out x0 (List.mem_of_getElem? hx0)
          have z0 := decB_size (n := x0) (by omega) (by omega)
          have hd0 : dcX xs 0 = decB x0 := by unfold dcX; simp only [List.getD, hx0, Option.getD_some]
          obtain ⟨x1, hx1⟩ : ∃ x, xs[1]? = some x := ⟨_, List.getElem?_eq_getElem (by omega)⟩
          obtain ⟨b1, b1'⟩ := HBD.out x1 (List.mem_of_getElem? hx1)
          have z1 := decB_size (n := x1) (by omega) (by omega)
          have hd1 : dcX xs 1 = decB x1 := by unfold dcX; simp only [List.getD, hx1, Option.getD_some]
          obtain ⟨x2, hx2⟩ : ∃ x, xs[2]? = some x := ⟨_, List.getElem?_eq_getElem (by omega)⟩
          obtain ⟨b2, b2'⟩ := HBD.out x2 (List.mem_of_getElem? hx2)
          have z2 := decB_size (n := x2) (by omega) (by omega)
          have hd2 : dcX xs 2 = decB x2 := by unfold dcX; simp only [List.getD, hx2, Option.getD_some]
          have s0 := HR.out.1 0 (decB x0) (by omega) (HDS.out 0 x0 hx0)
          have s1 := HR.out.1 1 (decB x1) (by omega) (HDS.out 1 x1 hx1)
          have s2 := HR.out.1 2 (decB x2) (by omega) (HDS.out 2 x2 hx2)
          have HRK : Hid (R = cl4 (decB x0) (decB x1) (decB x2)) := by
            have h := HE.out
            rw [show clK 4 xs = cl4 (dcX xs 0) (dcX xs 1) (dcX xs 2) from rfl, hd0, hd1, hd2] at h
            exact h
          clear HE HX HT HDS HBD hd0 hx0 b0 b0' hd1 hx1 b1 b1' hd2 hx2 b2 b2'
          generalize decB x0 = d0 at *
          generalize decB x1 = d1 at *
          generalize decB x2 = d2 at *
          obtain ⟨t0, t1, t2, t3⟩ := clz4 d0 d1 d2 z0 z1 z2
          have HBE := Lib.hid HR.out.2.2.2.1
          unfold cl4 at HRK
          have n0 : ((0 : Int) < (xs.length : Int)) := by omega
          have n1 : ((1 : Int) < (xs.length : Int)) := by omega
          have n2 : ((2 : Int) < (xs.length : Int)) := by omega
          go_wp2_with fail
          go_quiet (fail)
          go_wp2_with fail
          go_ret
          rw [HRK.out]
          exact ⟨rfl, below_drewN' HBE.out⟩
        · skip
          have hlk : 5 ≤ xs.length := hc5 rfl
          clear hc1 hc2 hc3 hc4 hc5 hc6
          obtain ⟨x0, hx0⟩ : ∃ x, xs[0]? = some x := ⟨_, List.getElem?_eq_getElem (by omega)⟩
          obtain ⟨b0, b0'⟩ := HBD.out x0 (List.mem_of_getElem? hx0)
          have z0 := decB_size (n := x0) (by omega) (by omega)
          have hd0 : dcX xs 0 = decB x0 := by unfold dcX; simp only [List.getD, hx0, Option.getD_some]
          obtain ⟨x1, hx1⟩ : ∃ x, xs[1]? = some x := ⟨_, List.getElem?_eq_getElem (by omega)⟩
          obtain ⟨b1, b1'⟩ := HBD.out x1 (List.mem_of_getElem? hx1)
          have z1 := decB_size (n := x1) (by omega) (by omega)
          have hd1 : dcX xs 1 = decB x1 := by unfold dcX; simp only [List.getD, hx1, Option.getD_some]
          obtain ⟨x2, hx2⟩ : ∃ x, xs[2]? = some x := ⟨_, List.getElem?_eq_getElem (by omega)⟩
          obtain ⟨b2, b2'⟩ := HBD.out x2 (List.mem_of_getElem? hx2)
          have z2 := decB_size (n := x2) (by omega) (by omega)
          have hd2 : dcX xs 2 = decB x2 := by unfold dcX; simp only [List.getD, hx2, Option.getD_some]
          obtain ⟨x3, hx3⟩ : ∃ x, xs[3]? = some x := ⟨_, List.getElem?_eq_getElem (by omega)⟩
          obtain ⟨b3, b3'⟩ := HBD.out x3 (List.mem_of_getElem? hx3)
          have z3 := decB_size (n := x3) (by omega) (by omega)
          have hd3 : dcX xs 3 = decB x3 := by unfold dcX; simp only [List.getD, hx3, Option.getD_some]
          obtain ⟨x4, hx4⟩ : ∃ x, xs[4]? = some x := ⟨_, List.getElem?_eq_getElem (by omega)⟩
          obtain ⟨b4, b4'⟩ := HBD.out x4 (List.mem_of_getElem? hx4)
          have z4 := decB_size (n := x4) (by omega) (by omega)
          have hd4 : dcX xs 4 = decB x4 := by unfold dcX; simp only [List.getD, hx4, Option.getD_some]
          have s0 := HR.out.1 0 (decB x0) (by omega) (HDS.out 0 x0 hx0)
          have s1 := HR.out.1 1 (decB x1) (by omega) (HDS.out 1 x1 hx1)
          have s2 := HR.out.1 2 (decB x2) (by omega) (HDS.out 2 x2 hx2)
          have s3 := HR.out.1 3 (decB x3) (by omega) (HDS.out 3 x3 hx3)
          have s4 := HR.out.1 4 (decB x4) (by omega) (HDS.out 4 x4 hx4)
          have HRK : Hid (R = cl5 (decB x0) (decB x1) (decB x2) (decB x3) (decB x4)) := by
            have h := HE.out
            rw [show clK 5 xs = cl5 (dcX xs 0) (dcX xs 1) (dcX xs 2) (dcX xs 3) (dcX xs 4) from rfl, hd0, hd1, hd2, hd3, hd4] at h
            exact h
          clear HE HX HT HDS HBD hd0 hx0 b0 b0' hd1 hx1 b1 b1' hd2 hx2 b2 b2' hd3 hx3 b3 b3' hd4 hx4 b4 b4'
          generalize decB x0 = d0 at *
          generalize decB x1 = d1 at *
          generalize decB x2 = d2 at *
          generalize decB x3 = d3 at *
          generalize decB x4 = d4 at *
          obtain ⟨t0, t1, t2, t3, t4, t5, t6, t7, t8⟩ := clz5 d0 d1 d2 d3 d4 z0 z1 z2 z3 z4
          have HBE := Lib.hid HR.out.2.2.2.1
          unfold cl5 at HRK
          have n0 : ((0 : Int) < (xs.length : Int)) := by omega
          have n1 : ((1 : Int) < (xs.length : Int)) := by omega
          have n2 : ((2 : Int) < (xs.length : Int)) := by omega
          have n3 : ((3 : Int) < (xs.length : Int)) := by omega
          have n4 : ((4 : Int) < (xs.length : Int)) := by omega
          go_wp2_with fail
          go_quiet (fail)
          go_wp2_with fail
          go_ret
          rw [HRK.out]
          exact ⟨rfl, below_drewN' HBE.out⟩
        · skip
          have hlk : 4 ≤ xs.length := hc6 rfl
          clear hc1 hc2 hc3 hc4 hc5 hc6
          obtain ⟨x0, hx0⟩ : ∃ x, xs[0]? = some x := ⟨_, List.getElem?_eq_getElem (by omega)⟩
          obtain ⟨b0, b0'⟩ := HBD.out x0 (List.mem_of_getElem? hx0)
          have z0 := decB_size (n := x0) (by omega) (by omega)
          have hd0 : dcX xs 0 = decB x0 := by unfold dcX; simp only [List.getD, hx0, Option.getD_some]
          obtain ⟨x1, hx1⟩ : ∃ x, xs[1]? = some x := ⟨_, List.getElem?_eq_getElem (by omega)⟩
          obtain ⟨b1, b1'⟩ := HBD.out x1 (List.mem_of_getElem? hx1)
          have z1 := decB_size (n := x1) (by omega) (by omega)
          have hd1 : dcX xs 1 = decB x1 := by unfold dcX; simp only [List.getD, hx1, Option.getD_some]
          obtain ⟨x2, hx2⟩ : ∃ x, xs[2]? = some x := ⟨_, List.getElem?_eq_getElem (by omega)⟩
          obtain ⟨b2, b2'⟩ := HBD.out x2 (List.mem_of_getElem? hx2)
          have z2 := decB_size (n := x2) (by omega) (by omega)
          have hd2 : dcX xs 2 = decB x2 := by unfold dcX; simp only [List.getD, hx2, Option.getD_some]
          obtain ⟨x3, hx3⟩ : ∃ x, xs[3]? = some x := ⟨_, List.getElem?_eq_getElem (by omega)⟩
          obtain ⟨b3, b3'⟩ := HBD.out x3 (List.mem_of_getElem? hx3)
          have z3 := decB_size (n := x3) (by omega) (by omega)
          have hd3 : dcX xs 3 = decB x3 := by unfold dcX; simp only [List.getD, hx3, Option.getD_some]
          have s0 := HR.out.1 0 (decB x0) (by omega) (HDS.out 0 x0 hx0)
          have s1 := HR.out.1 1 (decB x1) (by omega) (HDS.out 1 x1 hx1)
          have s2 := HR.out.1 2 (decB x2) (by omega) (HDS.out 2 x2 hx2)
          have s3 := HR.out.1 3 (decB x3) (by omega) (HDS.out 3 x3 hx3)
          have HRK : Hid (R = cl6 (decB x0) (decB x1) (decB x2) (decB x3)) := by
            have h := HE.out
            rw [show clK 6 xs = cl6 (dcX xs 0) (dcX xs 1) (dcX xs 2) (dcX xs 3) from rfl, hd0, hd1, hd2, hd3] at h
            exact h
          clear HE HX HT HDS HBD hd0 hx0 b0 b0' hd1 hx1 b1 b1' hd2 hx2 b2 b2' hd3 hx3 b3 b3'
          generalize decB x0 = d0 at *
          generalize decB x1 = d1 at *
          generalize decB x2 = d2 at *
          generalize decB x3 = d3 at *
          obtain ⟨t0, t1, t2, t3, t4, t5⟩ := clz6 d0 d1 d2 d3 z0 z1 z2 z3
          have HBE := Lib.hid HR.out.2.2.2.1
          unfold cl6 at HRK
          have n0 : ((0 : Int) < (xs.length : Int)) := by omega
          have n1 : ((1 : Int) < (xs.length : Int)) := by omega
          have n2 : ((2 : Int) < (xs.length : Int)) := by omega
          have n3 : ((3 : Int) < (xs.length : Int)) := by omega
          go_wp2_with fail
          go_quiet (fail)
          go_wp2_with fail
          go_ret
          rw [HRK.out]
          exact ⟨rfl, below_drewN' HBE.out⟩
end Go.Proofs.YtpgkellmhlmjeaaGreatDoor
