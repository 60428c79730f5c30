/- Law: what the checker accepts is true. The listed variables lie in memory as the program's text lays them. -/
import Derived.Test.YtpgkellmhlmjeaaGreatDoorMgAB
import Derived.Test.YtpgkellmhlmjeaaGreatDoorMgAC
import Derived.Test.YtpgkellmhlmjeaaGreatDoorMgAS
import Derived.Test.YtpgkellmhlmjeaaGreatDoorMgAT
import Derived.Test.YtpgkellmhlmjeaaGreatDoorMgAV
import Derived.Test.YtpgkellmhlmjeaaGreatDoorMgBA
namespace Go.Proofs.YtpgkellmhlmjeaaGreatDoor.fnSound
open Go.ChangeShapes Go.WideShapes Go.ChangeAt Go.RowKit Go.Sort
open Go.ChangeMaps (open_string shut_string)
/-- A claim is told exactly if the certificate is accepted. -/
theorem cl_ne {kk : Int} {xs : List Int} (h : ccB kk xs = true) : ((clB kk xs).toList == ([] : List UInt8)) = false := by
  rw [beq_eq_false_iff_ne]
  intro e
  have hs : (clB kk xs).size = 0 := by
    have : (clB kk xs).toList.length = 0 := by rw [e]; rfl
    rw [ByteArray.toList_eq] at this
    simpa using this
  unfold clB at hs
  rw [if_pos h] at hs
  obtain ⟨⟨k1, k2⟩, _⟩ := cc_len h
  have hkk : kk = 1 ∨ kk = 2 ∨ kk = 3 ∨ kk = 4 ∨ kk = 5 ∨ kk = 6 := by omega
  rcases hkk with rfl | rfl | rfl | rfl | rfl | rfl <;> (simp only [clK, cl1, cl2, cl3, cl4, cl5, cl6, ByteArray.size_append, Int.reduceEq, if_true, if_false] at hs) <;> (simp only [ByteArray.size, List.size_toArray, List.length_cons, List.length_nil] at hs) <;> omega
theorem cl_eq {kk : Int} {xs : List Int} (h : ccB kk xs = false) : ((clB kk xs).toList == ([] : List UInt8)) = true := by
  unfold clB
  rw [h]
  simp only [Bool.false_eq_true, if_false]
  rw [beq_iff_eq]
  rw [ByteArray.toList_eq]
theorem getE {xs : List Int} {j : Nat} (h : j < xs.length) : xs[j]? = some (xs.getD j 0) := by
  rw [List.getD_eq_getElem?_getD, List.getElem?_eq_getElem h]; rfl
set_option maxRecDepth 100000 in
set_option maxHeartbeats 16000000 in
theorem walkG (A : Option Addr) (n c : Nat) (w : World) (hT : Tab10 w) (h : Bytes w A n) (hn : n ≤ 3000) :
    Calls Tryz.prog 3 #[.slice A n c] w fun e w' => e = .returned (.bool true) ∧ Below w.heap.size w w' := by
  have By := Lib.hid h
  have HT := Lib.hid hT
  have hl : Hid (∀ W, Calls Tryz.prog 5 #[.slice A n c, .slice none 0 0] W fun e w' => e = .returned (.bool false) ∧ W = w') := fun W => by
    have h := a2Long_any A none n 0 c 0 W
    rwa [decide_eq_false (by omega)] at h
  clear h hn hT
  go_enter Tryz.func3, Tryz.ntmps3
  go_wp2_with fail
  refine (hl.out _).mono ?_
  rintro e w' ⟨rfl, rfl⟩
  go_wp2_with fail
  refine (a2Certificate_any A n c _ By.out).mono ?_
  rintro e w1 ⟨k, xs, A1, c1, rfl, hr, hlen, hb⟩
  have HR : Hid (∀ W, Below w1.heap.size w1 W → RdC W W.heap.size A1 c1 xs) := fun W hbW => ⟨(hr.1.below hbW).more hbW.size, hr.2⟩
  have HLO := Lib.hid hlen
  have hxl : xs.length ≤ 421 := hlen.le
  have HC1 : Hid (∀ W, Below w1.heap.size w1 W → Calls Tryz.prog 7 #[certV k A1 xs.length c1] W fun e w' => e = .returned (.bool (ccB k xs)) ∧ Below W.heap.size W w') := fun W hbW => iCheckCertificate_any k A1 c1 xs W (HR.out W hbW) (by unfold maxLen; omega)
  have HC2 : Hid (∀ W, Below w1.heap.size w1 W → Calls Tryz.prog 8 #[certV k A1 xs.length c1] W fun e w' => e = .returned (.bool (ccB k xs)) ∧ Below W.heap.size W w') := fun W hbW => sCheckCertificate_any k A1 c1 xs W (HR.out W hbW) (by unfold maxLen; omega)
  have HE1 := Lib.hid hb
  have HC3 : Hid (∀ W, Below w1.heap.size w1 W → Calls Tryz.prog 9 #[certV k A1 xs.length c1] W fun e w' => e = .returned (.string (clB k xs)) ∧ Below W.heap.size W w') := fun W hbW => iClaimOf_any k A1 c1 xs W (HR.out W hbW) (by unfold maxLen; omega) (HT.out.next (HE1.out.trans (hbW.mono HE1.out.size)))
  have HX := Lib.hid (BoxV.new w1 #[.int .i64 k, .slice A1 xs.length c1] 26)
  have E := Lib.hid (ext1 w1 (.cells #[.int .i64 k, .slice A1 xs.length c1] 26))
  have HSP : Hid (Below w1.heap.size w1 w1) := Below.refl _ _
  clear hr hlen hb hl By HT
  unfold certV at *
  cases hv : ccB k xs
  · have hs := cl_eq hv
    rw [hv] at HC1 HC2
    generalize clB k xs = R at *
    clear hv
    go_upto_region 4 with fail
    generalize w1.alloc (.cells #[.int .i64 _, .slice A1 xs.length c1] 26) = W1 at *
    have c0 := HX.out.at 0 _ rfl
    have c1' := HX.out.at 1 _ rfl
    go_wp2_with fail
    refine (HC1.out _ E.out).mono ?_
    rintro e w2 ⟨rfl, hb⟩
    have HX := Lib.hid (HX.out.next hb)
    have E := Lib.hid (ext_trans E.out hb)
    clear hb c0 c1' HC1
    have c0 := HX.out.at 0 _ rfl
    have c1' := HX.out.at 1 _ rfl
    go_wp2_with fail
    refine (HC2.out _ E.out).mono ?_
    rintro e w3 ⟨rfl, hb⟩
    have HX := Lib.hid (HX.out.next hb)
    have E := Lib.hid (ext_trans E.out hb)
    clear hb c0 c1' HC2
    have c0 := HX.out.at 0 _ rfl
    have c1' := HX.out.at 1 _ rfl
    go_wp2_with fail
    refine (HC3.out _ E.out).mono ?_
    rintro e V ⟨rfl, hb⟩
    have HX := Lib.hid (HX.out.next hb)
    have E := Lib.hid (ext_trans E.out hb)
    clear hb c0 c1' HC3
    have c0 := HX.out.at 0 _ rfl
    have c1' := HX.out.at 1 _ rfl
    go_wp2_with fail
    go_ret
    exact ⟨rfl, ext_trans HE1.out E.out⟩
  · have hs := cl_ne hv
    rw [hv] at HC1 HC2
    generalize clB k xs = R at *
    obtain ⟨⟨k1, k2⟩, ⟨hxl, hbd⟩, _⟩ := cc_len hv
    have HBD := Lib.hid hbd
    obtain ⟨hB1, hB2⟩ : bdC k xs = true ∧ ccK k xs = true := by unfold ccB at hv; simpa using hv
    have HK := Lib.hid hB2
    clear hv hbd hB1 hB2
    have hkk : k = 1 ∨ k = 2 ∨ k = 3 ∨ k = 4 ∨ k = 5 ∨ k = 6 := by omega
    rcases hkk with rfl | rfl | rfl | rfl | rfl | rfl
    · obtain ⟨a, b, g, x, y, hxs, hg⟩ := gc_true (show gcB xs = true from HK.out)
      have hlen : 5 ≤ xs.length := by rw [hxs]; exact Nat.le_refl 5
      have x0 : xs[0]? = some a := by rw [hxs]; rfl
      have x1 : xs[1]? = some b := by rw [hxs]; rfl
      have x2 : xs[2]? = some g := by rw [hxs]; rfl
      obtain ⟨a1, a2⟩ := HBD.out a (List.mem_of_getElem? x0)
      obtain ⟨b1, b2⟩ := HBD.out b (List.mem_of_getElem? x1)
      have HG := Lib.hid (fun W : World => a2Gcd_any a b W a1 a2 b1 b2)
      rw [hg] at HG
      clear hxs hg a1 a2 b1 b2 HK HBD k1 k2
      have i0 : ((0 : Int) < (xs.length : Int)) := by omega
      have n0 : 0 < xs.length := by omega
      have i1 : ((1 : Int) < (xs.length : Int)) := by omega
      have n1 : 1 < xs.length := by omega
      have i2 : ((2 : Int) < (xs.length : Int)) := by omega
      have n2 : 2 < xs.length := by omega
      have i3 : ((3 : Int) < (xs.length : Int)) := by omega
      have n3 : 3 < xs.length := by omega
      go_upto_region 4 with fail
      generalize w1.alloc (.cells #[.int .i64 _, .slice A1 xs.length c1] 26) = W1 at *
      have c0 := HX.out.at 0 _ rfl
      have c1' := HX.out.at 1 _ rfl
      go_wp2_with fail
      refine (HC1.out _ E.out).mono ?_
      rintro e w2 ⟨rfl, hb⟩
      have HX := Lib.hid (HX.out.next hb)
      have E := Lib.hid (ext_trans E.out hb)
      clear hb c0 c1' HC1
      have c0 := HX.out.at 0 _ rfl
      have c1' := HX.out.at 1 _ rfl
      go_wp2_with fail
      refine (HC2.out _ E.out).mono ?_
      rintro e w3 ⟨rfl, hb⟩
      have HX := Lib.hid (HX.out.next hb)
      have E := Lib.hid (ext_trans E.out hb)
      clear hb c0 c1' HC2
      have c0 := HX.out.at 0 _ rfl
      have c1' := HX.out.at 1 _ rfl
      go_wp2_with fail
      refine (HC3.out _ E.out).mono ?_
      rintro e V ⟨rfl, hb⟩
      have HX := Lib.hid (HX.out.next hb)
      have E := Lib.hid (ext_trans E.out hb)
      clear hb c0 c1' HC3
      have c0 := HX.out.at 0 _ rfl
      have c1' := HX.out.at 1 _ rfl
      go_wp2_with fail
      obtain ⟨hrd, _⟩ := HR.out V E.out
      obtain ⟨b0, off, rfl, hbl, hcx⟩ := hrd (by omega)
      have z0 : V.cell? ⟨b0, off, none⟩ = _ := hcx 0 _ x0
      have z1 := hcx 1 _ x1
      have z2 := hcx 2 _ x2
      clear hcx
      go_region_held3 (fun w' => w'.cell? ⟨b0, off, none⟩ = some (.int .i64 a) ∧ w'.cell? ⟨b0, off + 1, none⟩ = some (.int .i64 b) ∧ w'.cell? ⟨b0, off + 2, none⟩ = some (.int .i64 g))
        (exact ⟨z0, z1, z2⟩)
        ((go_at_call 10; (with_reducible refine (HG.out _).mono ?_); rintro e w' ⟨rfl, rfl⟩))
      go_wp2
      go_ret
      exact ⟨rfl, ext_drew (ext_trans HE1.out E.out)⟩
    · obtain ⟨a, r, hxs, ha, hq⟩ := ro_true (show roB xs = true from HK.out)
      have hlen : 2 ≤ xs.length := by rw [hxs]; exact Nat.le_refl 2
      have x0 : xs[0]? = some a := by rw [hxs]; rfl
      obtain ⟨a1, a2⟩ := HBD.out a (List.mem_of_getElem? x0)
      have HG := Lib.hid (fun W : World => RootOf_any a W (by omega) a2)
      rw [hq] at HG
      clear hxs a1 a2 HK HBD k1 k2 hq
      have i0 : ((0 : Int) < (xs.length : Int)) := by omega
      have n0 : 0 < xs.length := by omega
      go_upto_region 4 with fail
      generalize w1.alloc (.cells #[.int .i64 _, .slice A1 xs.length c1] 26) = W1 at *
      have c0 := HX.out.at 0 _ rfl
      have c1' := HX.out.at 1 _ rfl
      go_wp2_with fail
      refine (HC1.out _ E.out).mono ?_
      rintro e w2 ⟨rfl, hb⟩
      have HX := Lib.hid (HX.out.next hb)
      have E := Lib.hid (ext_trans E.out hb)
      clear hb c0 c1' HC1
      have c0 := HX.out.at 0 _ rfl
      have c1' := HX.out.at 1 _ rfl
      go_wp2_with fail
      refine (HC2.out _ E.out).mono ?_
      rintro e w3 ⟨rfl, hb⟩
      have HX := Lib.hid (HX.out.next hb)
      have E := Lib.hid (ext_trans E.out hb)
      clear hb c0 c1' HC2
      have c0 := HX.out.at 0 _ rfl
      have c1' := HX.out.at 1 _ rfl
      go_wp2_with fail
      refine (HC3.out _ E.out).mono ?_
      rintro e V ⟨rfl, hb⟩
      have HX := Lib.hid (HX.out.next hb)
      have E := Lib.hid (ext_trans E.out hb)
      clear hb c0 c1' HC3
      have c0 := HX.out.at 0 _ rfl
      have c1' := HX.out.at 1 _ rfl
      go_upto_region 14 with fail
      obtain ⟨hrd, _⟩ := HR.out V E.out
      obtain ⟨b0, off, rfl, hbl, hcx⟩ := hrd (by omega)
      have z0 : V.cell? ⟨b0, off, none⟩ = _ := hcx 0 _ x0
      clear hcx
      go_wp2_with fail
      refine (HG.out _).mono ?_
      rintro e w' ⟨rfl, rfl⟩
      go_wp2
      go_ret
      exact ⟨rfl, ext_trans HE1.out E.out⟩
    · obtain ⟨a, b, cc, g, hxs, hg0, hg1⟩ := li_true (show liB xs = true from HK.out)
      have hlen : 4 ≤ xs.length := by rw [hxs]; exact Nat.le_refl 4
      have x0 : xs[0]? = some a := by rw [hxs]; rfl
      have x1 : xs[1]? = some b := by rw [hxs]; rfl
      have x2 : xs[2]? = some cc := by rw [hxs]; rfl
      obtain ⟨a1, a2⟩ := HBD.out a (List.mem_of_getElem? x0)
      obtain ⟨b1, b2⟩ := HBD.out b (List.mem_of_getElem? x1)
      have HG := Lib.hid (fun W : World => a2Gcd_any a b W a1 a2 b1 b2)
      clear hxs a1 a2 b1 b2 HK HBD k1 k2
      generalize Int.gcd a b = G at *
      have i0 : ((0 : Int) < (xs.length : Int)) := by omega
      have n0 : 0 < xs.length := by omega
      have i1 : ((1 : Int) < (xs.length : Int)) := by omega
      have n1 : 1 < xs.length := by omega
      have i2 : ((2 : Int) < (xs.length : Int)) := by omega
      have n2 : 2 < xs.length := by omega
      have i3 : ((3 : Int) < (xs.length : Int)) := by omega
      have n3 : 3 < xs.length := by omega
      go_upto_region 4 with fail
      generalize w1.alloc (.cells #[.int .i64 _, .slice A1 xs.length c1] 26) = W1 at *
      have c0 := HX.out.at 0 _ rfl
      have c1' := HX.out.at 1 _ rfl
      go_wp2_with fail
      refine (HC1.out _ E.out).mono ?_
      rintro e w2 ⟨rfl, hb⟩
      have HX := Lib.hid (HX.out.next hb)
      have E := Lib.hid (ext_trans E.out hb)
      clear hb c0 c1' HC1
      have c0 := HX.out.at 0 _ rfl
      have c1' := HX.out.at 1 _ rfl
      go_wp2_with fail
      refine (HC2.out _ E.out).mono ?_
      rintro e w3 ⟨rfl, hb⟩
      have HX := Lib.hid (HX.out.next hb)
      have E := Lib.hid (ext_trans E.out hb)
      clear hb c0 c1' HC2
      have c0 := HX.out.at 0 _ rfl
      have c1' := HX.out.at 1 _ rfl
      go_wp2_with fail
      refine (HC3.out _ E.out).mono ?_
      rintro e V ⟨rfl, hb⟩
      have HX := Lib.hid (HX.out.next hb)
      have E := Lib.hid (ext_trans E.out hb)
      clear hb c0 c1' HC3
      have c0 := HX.out.at 0 _ rfl
      have c1' := HX.out.at 1 _ rfl
      go_wp2_with fail
      obtain ⟨hrd, _⟩ := HR.out V E.out
      obtain ⟨b0, off, rfl, hbl, hcx⟩ := hrd (by omega)
      have z0 : V.cell? ⟨b0, off, none⟩ = _ := hcx 0 _ x0
      have z1 := hcx 1 _ x1
      have z2 := hcx 2 _ x2
      clear hcx
      go_region_held3 (fun w' => w'.cell? ⟨b0, off, none⟩ = some (.int .i64 a) ∧ w'.cell? ⟨b0, off + 1, none⟩ = some (.int .i64 b) ∧ w'.cell? ⟨b0, off + 2, none⟩ = some (.int .i64 cc))
        (exact ⟨z0, z1, z2⟩)
        ((go_at_call 10; (with_reducible refine (HG.out _).mono ?_); rintro e w' ⟨rfl, rfl⟩))
      rcases Nat.eq_zero_or_pos G with hG | hG
      · subst hG
        have e1 : (cc != 0) = true := by simpa using hg0 rfl
        clear hg0 hg1
        go_wp2
        go_ret
        exact ⟨rfl, ext_drew (ext_trans HE1.out E.out)⟩
      · have e0 : ((G : Int) == 0) = false := by simp; omega
        have e1 : (0 : Int) < (G : Int) := by omega
        have e2 : (cc.tmod (G : Int) != 0) = true := by simpa using hg1 hG
        clear hg0 hg1
        go_wp2
        go_ret
        exact ⟨rfl, ext_drew (ext_trans HE1.out E.out)⟩
    · obtain ⟨d, x, y, hd, hx, hy, hlen, hp, hu⟩ := un_true (show unB xs = true from HK.out)
      have x0 : xs[0]? = some d := by rw [hd]; exact getE (by omega)
      have x1 : xs[1]? = some x := by rw [hx]; exact getE (by omega)
      have x2 : xs[2]? = some y := by rw [hy]; exact getE (by omega)
      have hut := utC_some hp hu
      have HG : Hid (∀ W : World, Calls Tryz.prog 12 #[.int .i64 d] W fun e w' => ∃ N : Int, e = .returned (.tuple #[pairV x y, .int .i64 N, .int .i64 0]) ∧ Below W.heap.size W w') := fun W => (utS_any d W).mono fun e w' ⟨P0, P1, N, h1, h2, h3⟩ => by
        rw [hut] at h1 h2
        have h4 := h2 rfl
        rw [hu] at h4
        injection h4 with h4
        injection h4 with h5 h6
        subst h5 h6
        exact ⟨N, h1, h3⟩
      clear hd hx hy hp hu hut HK HBD k1 k2
      have i0 : ((0 : Int) < (xs.length : Int)) := by omega
      have n0 : 0 < xs.length := by omega
      have i1 : ((1 : Int) < (xs.length : Int)) := by omega
      have n1 : 1 < xs.length := by omega
      have i2 : ((2 : Int) < (xs.length : Int)) := by omega
      have n2 : 2 < xs.length := by omega
      have i3 : ((3 : Int) < (xs.length : Int)) := by omega
      have n3 : 3 < xs.length := by omega
      go_upto_region 4 with fail
      generalize w1.alloc (.cells #[.int .i64 _, .slice A1 xs.length c1] 26) = W1 at *
      have c0 := HX.out.at 0 _ rfl
      have c1' := HX.out.at 1 _ rfl
      go_wp2_with fail
      refine (HC1.out _ E.out).mono ?_
      rintro e w2 ⟨rfl, hb⟩
      have HX := Lib.hid (HX.out.next hb)
      have E := Lib.hid (ext_trans E.out hb)
      clear hb c0 c1' HC1
      have c0 := HX.out.at 0 _ rfl
      have c1' := HX.out.at 1 _ rfl
      go_wp2_with fail
      refine (HC2.out _ E.out).mono ?_
      rintro e w3 ⟨rfl, hb⟩
      have HX := Lib.hid (HX.out.next hb)
      have E := Lib.hid (ext_trans E.out hb)
      clear hb c0 c1' HC2
      have c0 := HX.out.at 0 _ rfl
      have c1' := HX.out.at 1 _ rfl
      go_wp2_with fail
      refine (HC3.out _ E.out).mono ?_
      rintro e V ⟨rfl, hb⟩
      have HX := Lib.hid (HX.out.next hb)
      have E := Lib.hid (ext_trans E.out hb)
      clear hb c0 c1' HC3
      have c0 := HX.out.at 0 _ rfl
      have c1' := HX.out.at 1 _ rfl
      go_upto_region 20 with fail
      obtain ⟨hrd, _⟩ := HR.out V E.out
      obtain ⟨b0, off, rfl, hbl, hcx⟩ := hrd (by omega)
      have z0 : V.cell? ⟨b0, off, none⟩ = _ := hcx 0 _ x0
      have z1 := hcx 1 _ x1
      have z2 := hcx 2 _ x2
      clear hcx
      unfold pairV at HG
      go_wp2_with fail
      refine (HG.out _).mono ?_
      rintro e w9 ⟨N, rfl, hb9⟩
      have z1 := (hb9.cell (p := ⟨b0, off + 1, none⟩) hbl).trans z1
      have z2 := (hb9.cell (p := ⟨b0, off + 2, none⟩) hbl).trans z2
      have z0 := hbl
      have hb0 := Nat.lt_of_lt_of_le hbl hb9.size
      have E9 := Lib.hid (ext_trans (ext_trans HE1.out E.out) hb9)
      clear hb9
      go_wp2_with fail
      go_quiet (fail)
      go_wp2
      go_ret
      exact ⟨rfl, below_drewN' (ext_alloc E9.out _)⟩
    · have hpe : peB xs = true := HK.out
      have hl5 : xs.length ≤ 405 := by
        rcases HLO.out with h | ⟨_, h⟩
        · exact h
        · exfalso
          unfold peB at hpe
          rw [Bool.and_eq_true, Bool.and_eq_true, Bool.and_eq_true, Bool.and_eq_true, decide_eq_true_iff, decide_eq_true_iff, decide_eq_true_iff] at hpe
          obtain ⟨h1, h2, h3, _, _⟩ := hpe
          have := h _ (List.mem_of_getElem? (getE (xs := xs) (j := 4) (by omega)))
          omega
      obtain ⟨L, i, hl6, hR, h3, h4, h5⟩ := pe_true hpe hl5
      have HG : Hid (∀ W, Below w1.heap.size w1 W → Calls Tryz.prog 13 #[.slice A1 xs.length c1] W fun e w' => e = .returned (.bool true) ∧ Below W.heap.size W w') := fun W hbW => a2Period_any A1 c1 xs W L i (HR.out W hbW) hl6 hl5 hR h3 h4 h5
      clear hpe hl5 hl6 hR h3 h4 h5 HK HBD k1 k2
      go_upto_region 4 with fail
      generalize w1.alloc (.cells #[.int .i64 _, .slice A1 xs.length c1] 26) = W1 at *
      have c0 := HX.out.at 0 _ rfl
      have c1' := HX.out.at 1 _ rfl
      go_wp2_with fail
      refine (HC1.out _ E.out).mono ?_
      rintro e w2 ⟨rfl, hb⟩
      have HX := Lib.hid (HX.out.next hb)
      have E := Lib.hid (ext_trans E.out hb)
      clear hb c0 c1' HC1
      have c0 := HX.out.at 0 _ rfl
      have c1' := HX.out.at 1 _ rfl
      go_wp2_with fail
      refine (HC2.out _ E.out).mono ?_
      rintro e w3 ⟨rfl, hb⟩
      have HX := Lib.hid (HX.out.next hb)
      have E := Lib.hid (ext_trans E.out hb)
      clear hb c0 c1' HC2
      have c0 := HX.out.at 0 _ rfl
      have c1' := HX.out.at 1 _ rfl
      go_wp2_with fail
      refine (HC3.out _ E.out).mono ?_
      rintro e V ⟨rfl, hb⟩
      have HX := Lib.hid (HX.out.next hb)
      have E := Lib.hid (ext_trans E.out hb)
      clear hb c0 c1' HC3
      have c0 := HX.out.at 0 _ rfl
      have c1' := HX.out.at 1 _ rfl
      go_wp2_with fail
      refine (HG.out _ (ext_trans HSP.out E.out)).mono ?_
      rintro e w9 ⟨rfl, hb9⟩
      go_wp2
      go_ret
      exact ⟨rfl, ext_trans (ext_trans HE1.out E.out) hb9⟩
    · have hne : neB xs = true := by
        have h := HK.out
        simp only [ccK, Int.reduceEq, if_false] at h
        exact h
      unfold neB at hne
      rw [Bool.and_eq_true, decide_eq_true_iff] at hne
      obtain ⟨hlen, hne⟩ := hne
      have x0 : xs[0]? = some (xs.getD 0 0) := getE (by omega)
      have x1 : xs[1]? = some (xs.getD 1 0) := getE (by omega)
      have x2 : xs[2]? = some (xs.getD 2 0) := getE (by omega)
      have x3 : xs[3]? = some (xs.getD 3 0) := getE (by omega)
      have HG := Lib.hid (fun W : World => best_true _ _ _ _ _ _ _ _ W hne)
      generalize xs.getD 0 0 = t0 at *
      generalize xs.getD 1 0 = t1 at *
      generalize xs.getD 2 0 = t2 at *
      generalize xs.getD 3 0 = t3 at *
      replace hlen : 8 ≤ xs.length := by omega
      clear hne HK HBD k1 k2
      have i0 : ((0 : Int) < (xs.length : Int)) := by omega
      have n0 : 0 < xs.length := by omega
      have i1 : ((1 : Int) < (xs.length : Int)) := by omega
      have n1 : 1 < xs.length := by omega
      have i2 : ((2 : Int) < (xs.length : Int)) := by omega
      have n2 : 2 < xs.length := by omega
      have i3 : ((3 : Int) < (xs.length : Int)) := by omega
      have n3 : 3 < xs.length := by omega
      go_upto_region 4 with fail
      generalize w1.alloc (.cells #[.int .i64 _, .slice A1 xs.length c1] 26) = W1 at *
      have c0 := HX.out.at 0 _ rfl
      have c1' := HX.out.at 1 _ rfl
      go_wp2_with fail
      refine (HC1.out _ E.out).mono ?_
      rintro e w2 ⟨rfl, hb⟩
      have HX := Lib.hid (HX.out.next hb)
      have E := Lib.hid (ext_trans E.out hb)
      clear hb c0 c1' HC1
      have c0 := HX.out.at 0 _ rfl
      have c1' := HX.out.at 1 _ rfl
      go_wp2_with fail
      refine (HC2.out _ E.out).mono ?_
      rintro e w3 ⟨rfl, hb⟩
      have HX := Lib.hid (HX.out.next hb)
      have E := Lib.hid (ext_trans E.out hb)
      clear hb c0 c1' HC2
      have c0 := HX.out.at 0 _ rfl
      have c1' := HX.out.at 1 _ rfl
      go_wp2_with fail
      refine (HC3.out _ E.out).mono ?_
      rintro e V ⟨rfl, hb⟩
      have HX := Lib.hid (HX.out.next hb)
      have E := Lib.hid (ext_trans E.out hb)
      clear hb c0 c1' HC3
      have c0 := HX.out.at 0 _ rfl
      have c1' := HX.out.at 1 _ rfl
      go_wp2_with fail
      obtain ⟨hrd, _⟩ := HR.out V E.out
      obtain ⟨b0, off, rfl, hbl, hcx⟩ := hrd (by omega)
      have z0 : V.cell? ⟨b0, off, none⟩ = _ := hcx 0 _ x0
      have z1 := hcx 1 _ x1
      have z2 := hcx 2 _ x2
      have z3 := hcx 3 _ x3
      clear hcx
      unfold fracV at HG
      go_region_held3 (fun w' => w'.cell? ⟨b0, off, none⟩ = some (.int .i64 t0) ∧ w'.cell? ⟨b0, off + 1, none⟩ = some (.int .i64 t1) ∧ w'.cell? ⟨b0, off + 2, none⟩ = some (.int .i64 t2) ∧ w'.cell? ⟨b0, off + 3, none⟩ = some (.int .i64 t3))
        (first | exact ⟨z0, z1, z2, z3⟩ | exact ⟨(hb9.cell (p := ⟨b0, off, none⟩) hbl).trans z0, (hb9.cell (p := ⟨b0, off + 1, none⟩) hbl).trans z1, (hb9.cell (p := ⟨b0, off + 2, none⟩) hbl).trans z2, (hb9.cell (p := ⟨b0, off + 3, none⟩) hbl).trans z3⟩)
        ((go_at_call 14; (with_reducible refine (HG.out _).mono ?_); rintro e w9 ⟨rfl, hb9⟩))
      go_wp2
      go_ret
      exact ⟨rfl, ext_trans (ext_drew (ext_trans HE1.out E.out)) hb9⟩
set_option maxRecDepth 100000 in
theorem walk (A : Option Addr) (l c : Nat) (z : List Int) (w : World) (hT : Tab10 w) (hx : IsRow .u8 w A l c z) :
    Calls Tryz.prog 3 #[.slice A l c] w fun e w' => e = .returned (.bool true) ∧ Below w.heap.size w w' := by
  by_cases h : l ≤ 3000
  · exact walkG A l c w hT (hx.bytes (by omega)) h
  · have hl : Hid (∀ W, Calls Tryz.prog 5 #[.slice A l c, .slice none 0 0] W fun e w' => e = .returned (.bool true) ∧ W = w') := fun W => by
      have h2 := a2Long_any A none l 0 c 0 W
      rwa [decide_eq_true (by omega)] at h2
    clear hx h hT
    go_enter Tryz.func3, Tryz.ntmps3
    go_wp2_with fail
    refine (hl.out _).mono ?_
    rintro e w' ⟨rfl, rfl⟩
    go_wp2
    go_ret
    exact ⟨rfl, Below.refl _ _⟩
theorem own : ownKnob Tryz.prog.godebug = none := by kernel_rfl
theorem laidOut : laidOutB Tryz.prog = true := by kernel_rfl
/-- A world in which the listed variables lie as the row tells. -/
noncomputable def laidWorld (os : Os) : World :=
  let w0 := World.holding Tryz.prog os ⟨#[], #[], []⟩
  let put (h : Array Obj) (g : Nat) (cs : Array Value) : Array Obj := h.modify g fun
    | .cells _ t frozen => .cells cs t frozen
    | o => o
  let h0 := put w0.heap 3 #[.int .u8 0, .int .u8 1, .int .u8 28, .int .u8 2, .int .u8 29, .int .u8 14, .int .u8 24, .int .u8 3, .int .u8 30, .int .u8 22, .int .u8 20, .int .u8 15, .int .u8 25, .int .u8 17, .int .u8 4, .int .u8 8, .int .u8 31, .int .u8 27, .int .u8 13, .int .u8 23, .int .u8 21, .int .u8 19, .int .u8 16, .int .u8 7, .int .u8 26, .int .u8 12, .int .u8 18, .int .u8 6, .int .u8 11, .int .u8 5, .int .u8 10, .int .u8 9]
  let h1 := put h0 4 #[.int .u8 0, .int .u8 1, .int .u8 56, .int .u8 2, .int .u8 57, .int .u8 49, .int .u8 28, .int .u8 3, .int .u8 61, .int .u8 58, .int .u8 42, .int .u8 50, .int .u8 38, .int .u8 29, .int .u8 17, .int .u8 4, .int .u8 62, .int .u8 47, .int .u8 59, .int .u8 36, .int .u8 45, .int .u8 43, .int .u8 51, .int .u8 22, .int .u8 53, .int .u8 39, .int .u8 33, .int .u8 30, .int .u8 24, .int .u8 18, .int .u8 12, .int .u8 5, .int .u8 63, .int .u8 55, .int .u8 48, .int .u8 27, .int .u8 60, .int .u8 41, .int .u8 37, .int .u8 16, .int .u8 46, .int .u8 35, .int .u8 44, .int .u8 21, .int .u8 52, .int .u8 32, .int .u8 23, .int .u8 11, .int .u8 54, .int .u8 26, .int .u8 40, .int .u8 15, .int .u8 34, .int .u8 20, .int .u8 31, .int .u8 10, .int .u8 25, .int .u8 14, .int .u8 19, .int .u8 9, .int .u8 13, .int .u8 8, .int .u8 7, .int .u8 6]
  let h2 := put h1 1 #[.int .u64 1, .int .u64 10, .int .u64 100, .int .u64 1000, .int .u64 10000, .int .u64 100000, .int .u64 1000000, .int .u64 10000000, .int .u64 100000000, .int .u64 1000000000, .int .u64 10000000000, .int .u64 100000000000, .int .u64 1000000000000, .int .u64 10000000000000, .int .u64 100000000000000, .int .u64 1000000000000000, .int .u64 10000000000000000, .int .u64 100000000000000000, .int .u64 1000000000000000000, .int .u64 10000000000000000000]
  { w0 with heap := h2 }
theorem laidWorld_met (os : Os) (args : Array Value) : laidMetH Tryz.prog Rows.fnSoundRow.laid ((laidWorld os).forCall (fun _ _ => 0) ⟨#[], args, []⟩).memory :=
  (LaidIn.of_run [3, 4, 1] 8 (by kernel_rfl) (by kernel_rfl) (by kernel_rfl) (by kernel_rfl) : LaidIn Tryz.prog ((laidWorld os).forCall (fun _ _ => 0) ⟨#[], args, []⟩).memory Rows.fnSoundRow.laid [3, 4, 1]).met
set_option linter.unusedVariables false in
set_option maxRecDepth 100000 in
theorem lifted (os : Os) (started : os.Started) (H : Type) (enc : TypeId × Value → H) :
    ReturnsInHanded {} Tryz.checked os 3 .any (fun w args => (Rows.fnSoundSpec.pre enc Tryz.prog Tryz.f3 [] false w args ∧ laidMetH Tryz.prog Rows.fnSoundRow.laid w) ∧ sizedMet enc Tryz.prog Tryz.f3 (OpenSpec.ofChange Rows.fnSoundSpec) false w args) (Rows.fnSoundSpec.post enc Tryz.prog Tryz.f3 false true false false) := by
  refine returnsInHanded_of_change_and (C := Tryz.checked) (X := fun w _ => laidMetH Tryz.prog Rows.fnSoundRow.laid w) (fun _ _ _ hh h => h.of_heap hh) own started (by kernel_rfl) Tryz.func3
    (ChangeSpec.witness_at (enc := enc) (C := Tryz.checked) (os := os) (X := fun w _ => laidMetH Tryz.prog Rows.fnSoundRow.laid w) false (laidWorld os) #[.slice none 0 0] 8 rfl (by kernel_rfl) (by kernel_rfl) (by kernel_rfl) (by kernel_rfl) (by kernel_rfl) (laidWorld_met os _)) ?_
  intro W base args ds gs before hval0 hW _ _ hL _
  have hT : Lib.TabIs Tryz.prog W "internal/strconv.uint64pow10" .u64 Lib.pow10Tab := tab_of (laidMet.tail (laidMet.tail hL))
  have hval : ∀ (j : Nat) t v, Tryz.f3.params[j]? = some t → args[j]? = some v → Value.okWide Tryz.prog W .any base t v := hval0
  have hW' := hW
  obtain ⟨p, q, hA0, hV, rfl, hfz, hnd⟩ := hW
  have hA : DataW.TrodAll enc Tryz.prog W 0 (fun _ => true) true Tryz.f3.params.toList args.toList ds p := hA0
  rw [Tryz.params3] at hA hval
  obtain ⟨v0, vs0, d0, ds0, p0, q0, hargs, rfl, rfl, h0, r0⟩ := trodAll_cons hA
  obtain ⟨rfl, rfl, rfl⟩ := trodAll_nil r0
  obtain rfl : args = #[v0] := by cases args; simp_all
  obtain ⟨rfl, rfl⟩ := trodVars_none hV
  have k0 := h0
  have lt0 : ∀ x ∈ p0, x.block < W.heap.size := by obtain ⟨m, hm⟩ := k0; exact DataW.trod_lt m _ _ _ hm
  obtain ⟨A0, l0, c0, rfl⟩ := okWide_slice Tryz.underlying22 (hval 0 22 v0 rfl rfl)
  obtain ⟨z0, w0⟩ : ∃ zs, IsRow .u8 W A0 l0 c0 zs := isRow_arg Tryz.underlying22 Tryz.underlying5 (by kernel_rfl) h0
  clear hA0 hval0
  refine (walk A0 l0 c0 z0 W hT w0).mono fun e W' ⟨he, bel⟩ => ?_
  subst he
  exact ⟨_, rfl, _, _, _, [], _, [], hW', trodAll_mk1 (shut_bool Tryz.underlying4 _), (trodAll_cons_mk (Below.trod laidOut (by kernel_rfl) (of_decide_eq_true (by kernel_rfl)) k0 bel lt0) trodAll_mk0), rfl, bel.frame _, fun h => by cases h⟩
theorem jPlace : (Rows.fnSoundRow.inPlace == Tryz.prog.inPlace 3) = true := by kernel_rfl
theorem jFollow : (Rows.fnSoundRow.unfollowed == Tryz.prog.unfollowed 3) = true := by kernel_rfl
theorem jRecurse : (Rows.fnSoundRow.recurses == Tryz.prog.recurses 3) = true := by kernel_rfl
theorem jNamed : (Rows.fnSoundRow.named == Tryz.prog.varsNamed 3) = true := by kernel_rfl
theorem joined : joinedFacts Tryz.prog 3 Tryz.f3 Rows.fnSoundSpec Rows.fnSoundRow = true :=
  joined_of (by kernel_rfl) (by kernel_rfl) (by kernel_rfl) (by kernel_rfl) (by kernel_rfl) jPlace jFollow jRecurse jNamed (by kernel_rfl) (by kernel_rfl) (by kernel_rfl) (by kernel_rfl) (by kernel_rfl) (by kernel_rfl) (by kernel_rfl) (by kernel_rfl) (by kernel_rfl) rfl rfl rfl rfl rfl rfl (by kernel_rfl) (by kernel_rfl) (by kernel_rfl)
theorem over : Rows.fnSoundRow.holds Tryz.pinned (OpenSpec.ofChange Rows.fnSoundSpec) :=
  OpenClaim.holds_of_wide 3 Tryz.f3 rfl rfl rfl rfl rfl rfl rfl ⟨rfl, rfl, rfl, rfl, rfl⟩ rfl rfl rfl rfl rfl (by kernel_rfl) Tryz.func3 joined
    (of_decide_eq_true (by kernel_rfl)) (by unfold Func.isWrapper; first | (rw [if_pos (by decide +kernel)]; kernel_rfl) | (rw [if_neg (by decide +kernel)]; exact ⟨rfl, rfl⟩))
    (fun os started H enc _ => lifted os started H enc)
theorem fname : Tryz.prog.funcNamed "loop.example/g01007/laws.FnSound" = some 3 := by kernel_rfl
theorem stand22 : Tryz.prog.wantsStandIn 22 = false := by kernel_rfl
theorem proved : Rows.FnSoundCardSaid :=
  Claim7.holds_tied_plain_at .later [] [.data, .data, .data] true (true, "0fa224d301dfea33a033ce5574f22f49b9c0423cfcac78af5f175f588346e406") true over (fun _ h => by cases h) (by kernel_rfl) (fun _ h => by cases h) fnSound_row_tie rfl ⟨rfl, rfl⟩ (by kernel_rfl) rfl
    (fun f fn hf hfn => by
      obtain rfl : f = 3 := (Option.some.inj (fname.symm.trans hf)).symm
      obtain rfl : fn = Tryz.f3 := (Option.some.inj (Tryz.func3.symm.trans hfn)).symm
      exact ⟨by kernel_rfl, fun j t ht => by
        rw [Tryz.params3] at ht
        rcases j with _ | j
        · obtain rfl : t = 22 := by simpa using ht.symm
          exact stand22
        simp at ht⟩)
    (by kernel_rfl)
end Go.Proofs.YtpgkellmhlmjeaaGreatDoor.fnSound
