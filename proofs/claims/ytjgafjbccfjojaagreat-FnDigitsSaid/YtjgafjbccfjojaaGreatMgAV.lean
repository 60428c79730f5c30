/- Parts of the proof, merged: SfW SxW. No condition but those that each theorem names. -/
import Derived.Test.YtjgafjbccfjojaaGreatMgAU
import Derived.Deep.RegionLaw
import Derived.Deep.DeepMust
namespace Go.Proofs.YtjgafjbccfjojaaGreat
open Go.RowKit Go.Sort
/-- What a call returns that makes a row. -/
def RetOwn (w : World) (xs : List Int) (e : Ending) (w' : World) : Prop := ∃ A c, e = .returned (.slice A xs.length c) ∧ OwnR w' (w.heap.size + 1) (.slice A xs.length c) xs ∧ Below w.heap.size w w'
set_option maxHeartbeats 1000000 in
theorem l02Draw500_any (g B N : Nat) (w : World) (h : Src g B N w) (hN : N ≤ 900000) :
    Calls Tryz.prog 65 #[.pointer (some ⟨g, 0, none⟩), .int .i64 500] w (RetF g B (N + 8) w) := by
  have T := Lib.hid (S0.start h 34)
  clear h
  go_enter Tryz.func65, Tryz.ntmps65
  go_wp2_with fail
  refine (srcPick_any g B N 1001 _ T.out.1 (by omega) (by omega)).mono ?_
  rintro e w1 ⟨x, x1, x2, rfl, S1, K1⟩
  have T := Lib.hid (T.out.keep S1 K1)
  go_wp2_with fail
  refine (srcOne_any g B _ 2 _ T.out.1 (by omega) (by omega)).mono ?_
  rintro e w2 ⟨b, rfl, S2, K2⟩
  have T := Lib.hid (T.out.keep S2 K2)
  clear S1 K1 S2 K2
  cases b
  · go_wp2_with fail
    refine (srcPick_any g B _ 500 _ T.out.1 (by omega) (by omega)).mono ?_
    rintro e w4 ⟨y, y1, y2, rfl, S4, K4⟩
    have T := Lib.hid (T.out.keep S4 K4)
    go_wp2_with fail
    refine (l02Make_some _ _ _ (by omega) (by omega) (by omega) (by omega)).mono ?_
    rintro e w5 ⟨u, v, rfl, hb5⟩
    have T := Lib.hid (T.out.next hb5)
    clear hb5 S4 K4
    obtain ⟨r0, r1, rf, rl⟩ := T.out.2.2.1
    have rf0 := rf 0
    have rf1 := rf 1
    clear rf
    obtain ⟨s0, s1⟩ := set_two r0 r1
    go_wp2
    refine bodyPost_ret ?_ rfl (S0.ret T.out (by omega) _ _ u v)
    simp [results, Tryz.results65, go_sem, s0, s1]
  · go_wp2_with fail
    refine (srcPick_any g B _ 501 _ T.out.1 (by omega) (by omega)).mono ?_
    rintro e w3 ⟨z, z1, z2, rfl, S3, K3⟩
    have T := Lib.hid ((T.out.keep S3 K3))
    clear S3 K3
    go_wp2_with fail
    refine (srcPick_any g B _ 500 _ T.out.1 (by omega) (by omega)).mono ?_
    rintro e w4 ⟨y, y1, y2, rfl, S4, K4⟩
    have T := Lib.hid (T.out.keep S4 K4)
    go_wp2_with fail
    refine (l02Make_some _ _ _ (by omega) (by omega) (by omega) (by omega)).mono ?_
    rintro e w5 ⟨u, v, rfl, hb5⟩
    have T := Lib.hid (T.out.next hb5)
    clear hb5 S4 K4
    obtain ⟨r0, r1, rf, rl⟩ := T.out.2.2.1
    have rf0 := rf 0
    have rf1 := rf 1
    clear rf
    obtain ⟨s0, s1⟩ := set_two r0 r1
    go_wp2
    refine bodyPost_ret ?_ rfl (S0.ret T.out (by omega) _ _ u v)
    simp [results, Tryz.results65, go_sem, s0, s1]
set_option maxHeartbeats 2000000 in
theorem l03Terms_row (n d : Int) (w : World) (n1 : -1000000000 ≤ n) (n2 : n ≤ 1000000000) (d1 : 1 ≤ d) (d2 : d ≤ 1000000000) :
    Calls Tryz.prog 97 #[fracV n d] w (RetOwn w (termsOf n d)) := by
  obtain ⟨i0, hi, hz0, hz1, hz2⟩ := info_parts info64
  have HI := Lib.hid hi
  obtain ⟨R, hR⟩ : ∃ R, termsOf n d = R := ⟨_, rfl⟩
  rw [hR]
  have HR : Hid (expT d.toNat n d = R) := hR
  clear hR
  (try unfold fracV)
  go_enter Tryz.func97, Tryz.ntmps97
  go_wp2_with fail
  go_loopw [4, 5, 3] (fun s t v wr => ∃ (k : Nat) (m e : Int) (out : List Int), s = .int .i64 m ∧ t = .int .i64 e ∧ -1000000000 ≤ m ∧ m ≤ 1000000000 ∧ 0 ≤ e ∧ e ≤ 1000000000 ∧ e ≤ k ∧ out.length + e ≤ 1000000000 ∧ Hid (out ++ expT k m e = R) ∧ OutI w (w.heap.size+1) out v wr) (fun _ t _ _ => (intOf t).toNat)
  case atStart =>
    have HR' := HR.out
    subst HR'
    exact ⟨d.toNat, n, d, [], rfl, rfl, by omega, by omega, by omega, by omega, by omega, (by simp; exact d2), rfl, outI_start w _⟩
  case round =>
    obtain ⟨k, m, e, out, rfl, rfl, m1, m2, e1, e2, hek, hol, HO, HV⟩ := hrel
    clear HR
    have HVV := Lib.hid HV
    clear HV
    by_cases h0 : e = 0
    · have t0 : (e != 0) = false := by simpa using h0
      have HE : Hid (R = out) := by
        have h := HO.out
        rw [h0, expT_zero, List.append_nil] at h
        exact h.symm
      clear h0
      go_wp2
      go_ret
      rw [HE.out]
      obtain ⟨hown, hbel, hsz⟩ := HVV.out
      obtain ⟨-, A, c, rfl, -⟩ := Wr.of_own hown
      exact ⟨A, c, rfl, hown, hbel⟩
    · have t0 : (e != 0) = true := by simpa using h0
      obtain ⟨j, hj, g1, g2, g3, hst⟩ := expT_step (n := m) (show 1 ≤ e by omega) hek
      obtain ⟨q1, q2⟩ := ediv_rng (n := m) (d := e) (by omega) m1 m2
      have hme := Int.mul_ediv_add_emod m e
      have hcm : e * (m / e) = m / e * e := Int.mul_comm _ _
      have HN : Hid ((out ++ [m / e]) ++ expT j e (m % e) = R) := by
        have h := HO.out
        rw [hst] at h
        unfold Hid
        rw [List.append_assoc]
        exact h
      generalize hq : m / e = q at *
      generalize hr : m % e = r at *
      have hqe : q * e = m - r := by omega
      have hqe1 : -3000000000 ≤ q * e ∧ q * e ≤ 3000000000 := by omega
      obtain ⟨p1, p2⟩ := hqe1
      have HQ := Lib.hid hqe
      have HC : Hid (∀ W, Calls Tryz.prog 41 #[.int .i64 m, .int .i64 e] W fun x w' => x = .returned (.int .i64 q) ∧ W = w') := fun W => by
        have h : Calls Tryz.prog 41 #[.int .i64 m, .int .i64 e] W fun x w' => x = .returned (.int .i64 (m / e)) ∧ W = w' := l02Floor_any _ _ _ (by omega) (by omega) (by omega) (by omega)
        rwa [hq] at h
      clear hst hme hcm hq hr hqe h0 HO
      go_wp2_with fail
      refine (HC.out _).mono ?_
      rintro x w' ⟨rfl, rfl⟩
      have hown := HVV.out.1
      have hbz := HVV.out.2.2
      go_wp2_with (at_builtin; refine wpList_append_own _ rfl _ _ 24 rfl (w.heap.size+1) 2 i0 (.int .i64 0) 1 8 Tryz.underlying24 HI.out hz0 hz1 hz2 rfl (by decide) _ _ _ rfl (hown.alloc _) ⟨wr.heap.size, 0, none⟩ 1 1 [.int .i64 q] rfl rfl ?c1 ?c2 ?c3 ?c4 ?c5 ?_)
      case c1 => exact cell_one_new _ _ _
      case c2 => simp [Value.oneCell']
      case c3 => unfold maxLen; omega
      case c4 => omega
      case c5 => simp; omega
      intro v' w3 hown3 hgrow _
      have HV3 := OutI.push HVV.out (by omega) _ _ hown3 hgrow
      clear hown3 hgrow hown
      go_wp2
      go_roundw
      case rel => exact ⟨j, e, r, out ++ [q], rfl, val_int (by have := HQ.out; omega), by omega, by omega, by omega, by omega, g1, by simp; omega, HN.out, HV3⟩
      case measure => have := HQ.out; simp [intOf]; omega
/-- What a call returns that makes a source. -/
def RetSq (w : World) (e : Ending) (w' : World) : Prop := ∃ (s : So) (v1 v2 v3 : Value), e = .returned (.agg #[v1, v2, v3]) ∧ Own3 w' (w.heap.size + 1) v1 v2 v3 s ∧ (s.hd.length ≤ 30 ∧ s.pd.length ≤ 30 ∧ s.gr.length ≤ 30) ∧ Below w.heap.size w w'
theorem lit_own (W : World) (B : Nat) (C : Array Value) (xs : List Int) (h : C.toList = xs.map (Value.int .i64)) (hB : B ≤ W.heap.size) (hn : xs.length ≤ 100) : OwnR (W.alloc (.cells C 2)) B (.slice (some ⟨W.heap.size, 0, none⟩) xs.length xs.length) xs := by
  have hs : C.size = xs.length * 1 := by rw [← Array.length_toList, h]; simp
  have k := World.ownsRow_lit (base := B) (e := 2) (size := 1) W C xs.length hB (by unfold maxLen; omega) hs
  unfold OwnR
  rw [← h]
  exact k
theorem own_at_ne {a b n c n' c' : Nat} (h : ¬ a = b) : ∀ k, (Value.slice (some ⟨a, 0, none⟩) n c).ownBlock = some k → (Value.slice (some ⟨b, 0, none⟩) n' c').ownBlock ≠ some k := fun k h1 h2 => by
  have e1 : a = k := by injection h1
  have e2 : b = k := by injection h2
  omega
/-- Three rows that are laid one behind the other. -/
theorem lit3_own (W : World) (B : Nat) (C D E : Array Value) (xs ys zs : List Int) (h1 : C.toList = xs.map (Value.int .i64)) (h2 : D.toList = ys.map (Value.int .i64)) (h3 : E.toList = zs.map (Value.int .i64)) (hB : B ≤ W.heap.size) (hn : xs.length ≤ 30 ∧ ys.length ≤ 30 ∧ zs.length ≤ 30) :
    Own3 (((W.alloc (.cells C 2)).alloc (.cells D 2)).alloc (.cells E 2)) B (.slice (some ⟨W.heap.size, 0, none⟩) xs.length xs.length) (.slice (some ⟨W.heap.size + 1, 0, none⟩) ys.length ys.length) (.slice (some ⟨W.heap.size + 1 + 1, 0, none⟩) zs.length zs.length) ⟨xs, ys, zs⟩ := by
  have o1 := lit_own W B C xs h1 hB (by omega)
  have o2 := lit_own (W.alloc (.cells C 2)) B D ys h2 (by simp; omega) (by omega)
  have o3 := lit_own ((W.alloc (.cells C 2)).alloc (.cells D 2)) B E zs h3 (by simp; omega) (by omega)
  have e1 : (W.alloc (.cells C 2)).heap.size = W.heap.size + 1 := by simp
  have e2 : ((W.alloc (.cells C 2)).alloc (.cells D 2)).heap.size = W.heap.size + 1 + 1 := by simp
  rw [e1] at o2
  rw [e2] at o3
  exact ⟨(World.ownsRow.alloc o1 _).alloc _, o2.alloc _, o3, own_at_ne (by omega), own_at_ne (by omega), own_at_ne (by omega)⟩
set_option maxHeartbeats 1000000 in
theorem SourceOfE_any (w : World) : Calls Tryz.prog 93 #[] w (RetSq w) := by
  have E0 := Lib.hid (ext1 w (.cells #[.slice none 0 0, .slice none 0 0, .slice none 0 0] 26))
  have R0 := Lib.hid (BoxV.new w #[.slice none 0 0, .slice none 0 0, .slice none 0 0] 26)
  go_enter Tryz.func93, Tryz.ntmps93
  have HO : Hid (Own3 ((((w.alloc (.cells #[.slice (some ⟨w.heap.size + 1, 0, none⟩) 1 1, .slice (some ⟨w.heap.size + 1 + 1, 0, none⟩) 3 3, .slice (some ⟨w.heap.size + 1 + 1 + 1, 0, none⟩) 3 3] 26)).alloc (.cells #[.int .i64 2] 2)).alloc (.cells #[.int .i64 1, .int .i64 2, .int .i64 1] 2)).alloc (.cells #[.int .i64 0, .int .i64 2, .int .i64 0] 2)) (w.heap.size + 1) (.slice (some ⟨w.heap.size + 1, 0, none⟩) 1 1) (.slice (some ⟨w.heap.size + 1 + 1, 0, none⟩) 3 3) (.slice (some ⟨w.heap.size + 1 + 1 + 1, 0, none⟩) 3 3) ⟨[2], [1, 2, 1], [0, 2, 0]⟩) := by
    have h := lit3_own (w.alloc (.cells #[.slice (some ⟨w.heap.size + 1, 0, none⟩) 1 1, .slice (some ⟨w.heap.size + 1 + 1, 0, none⟩) 3 3, .slice (some ⟨w.heap.size + 1 + 1 + 1, 0, none⟩) 3 3] 26)) (w.heap.size + 1) #[.int .i64 2] #[.int .i64 1, .int .i64 2, .int .i64 1] #[.int .i64 0, .int .i64 2, .int .i64 0] [2] [1, 2, 1] [0, 2, 0] rfl rfl rfl (by simp) (by simp)
    have e : (w.alloc (.cells #[.slice (some ⟨w.heap.size + 1, 0, none⟩) 1 1, .slice (some ⟨w.heap.size + 1 + 1, 0, none⟩) 3 3, .slice (some ⟨w.heap.size + 1 + 1 + 1, 0, none⟩) 3 3] 26)).heap.size = w.heap.size + 1 := by simp
    rw [e] at h
    exact h
  go_wp2
  refine bodyPost_ret (v := .agg #[.slice (some ⟨w.heap.size + 1, 0, none⟩) 1 1, .slice (some ⟨w.heap.size + 1 + 1, 0, none⟩) 3 3, .slice (some ⟨w.heap.size + 1 + 1 + 1, 0, none⟩) 3 3]) ?_ rfl ⟨_, _, _, _, rfl, HO.out, by simp, ?_⟩
  · simp [results, Tryz.results93, go_sem]
  · exact ext_alloc (ext_alloc (ext_alloc (ext1 _ _) _) _) _
set_option maxHeartbeats 1000000 in
theorem SourceOfFraction_any (n d : Int) (w : World) : Calls Tryz.prog 92 #[fracV n d] w (RetSs w) := by
  have HV := Lib.hid (fun W : World => l02Ok_any n d W)
  have E0 := Lib.hid (ext_alloc (ext1 w (.cells #[.int .i64 n, .int .i64 d] 34)) (.cells #[.slice none 0 0, .slice none 0 0, .slice none 0 0] 26))
  have F0 := Lib.hid ((BoxV.new w #[.int .i64 n, .int .i64 d] 34).alloc (.cells #[.slice none 0 0, .slice none 0 0, .slice none 0 0] 26))
  have R0 : Hid (BoxV (w.heap.size + 1) [.slice none 0 0, .slice none 0 0, .slice none 0 0] ((w.alloc (.cells #[.int .i64 n, .int .i64 d] 34)).alloc (.cells #[.slice none 0 0, .slice none 0 0, .slice none 0 0] 26))) := by
    have h := BoxV.new (w.alloc (.cells #[.int .i64 n, .int .i64 d] 34)) #[.slice none 0 0, .slice none 0 0, .slice none 0 0] 26
    unfold Hid
    simpa using h
  cases hv : fracOk n d
  · rw [hv] at HV
    unfold fracV at *
    clear hv
    go_enter Tryz.func92, Tryz.ntmps92
    go_wp2_with fail
    refine (HV.out _).mono ?_
    rintro e w1 ⟨rfl, hb1⟩
    have HB1 := Lib.hid (ext_trans E0.out hb1)
    have R1 := Lib.hid (R0.out.next hb1)
    have r0 := R1.out.at 0 _ rfl
    have r1 := R1.out.at 1 _ rfl
    have r2 := R1.out.at 2 _ rfl
    have f0 := R1.out.f 0
    have f1 := R1.out.f 1
    have f2 := R1.out.f 2
    obtain ⟨s0, s1, s2⟩ := set_three r0 r1 r2
    go_wp2
    refine bodyPost_ret (v := .tuple #[.agg #[.slice none 0 0, .slice none 0 0, .slice none 0 0], .int .i64 1]) ?_ rfl (RetSs.nil_ (ext_set (ext_set (ext_set HB1.out (by simp) _) (by simp) _) (by simp) _))
    simp [results, Tryz.results92, go_sem, s0, s1, s2]
  · rw [hv] at HV
    obtain ⟨f1, f2, f3, f4, _⟩ := fracOk_true.1 hv
    have HT := Lib.hid (fun W : World => l03Terms_row n d W f3 f4 f1 f2)
    unfold fracV at *
    clear hv f1 f2 f3 f4
    generalize termsOf n d = ts at *
    go_enter Tryz.func92, Tryz.ntmps92
    go_wp2_with fail
    generalize ((w.alloc (.cells #[.int .i64 n, .int .i64 d] 34)).alloc (.cells #[.slice none 0 0, .slice none 0 0, .slice none 0 0] 26)) = W0 at *
    refine (HV.out _).mono ?_
    rintro e w1 ⟨rfl, hb1⟩
    have E1 := Lib.hid (ext_trans E0.out hb1)
    have R1 := Lib.hid (R0.out.next hb1)
    have F1 := Lib.hid (F0.out.next hb1)
    have c0 := F1.out.at 0 _ rfl
    have c1 := F1.out.at 1 _ rfl
    clear hb1 E0 R0 F0
    go_wp2_with fail
    have HZ : Hid (w.heap.size + 1 < w1.heap.size) := R1.out.lt
    refine (HT.out _).mono ?_
    rintro e w2 ⟨A, c, rfl, ho, hb2⟩
    have E1 := Lib.hid (ext_trans E1.out hb2)
    have R1 := Lib.hid (R1.out.next hb2)
    have HO := Lib.hid ho
    have HS2 : Hid (w1.heap.size ≤ w2.heap.size) := hb2.size
    clear hb2 ho c0 c1 F1
    have r0 := R1.out.at 0 _ rfl
    have r1 := R1.out.at 1 _ rfl
    have r2 := R1.out.at 2 _ rfl
    have f0 := R1.out.f 0
    have f1 := R1.out.f 1
    have f2 := R1.out.f 2
    obtain ⟨s0, s1, s2⟩ := set_three r0 r1 r2
    by_cases hl : 30 < ts.length
    · have hl1 : (30 : Int) < (ts.length : Int) := by omega
      go_wp2
      refine bodyPost_ret (v := .tuple #[.agg #[.slice none 0 0, .slice none 0 0, .slice none 0 0], .int .i64 5]) ?_ rfl (RetSs.nil_ (ext_set (ext_set (ext_set E1.out (by simp) _) (by simp) _) (by simp) _))
      simp [results, Tryz.results92, go_sem, s0, s1, s2]
    · have hl1 : ¬ (30 : Int) < (ts.length : Int) := by omega
      have HL : Hid (ts.length ≤ 30) := by unfold Hid; omega
      clear r0 r1 r2 f0 f1 f2 s0 s1 s2
      have R1 := Lib.hid ((R1.out.alloc (.cells #[] 2)).alloc (.cells #[] 2))
      have E1 := Lib.hid (ext_alloc (ext_alloc E1.out (.cells #[] 2)) (.cells #[] 2))
      have HZ2 : Hid (w.heap.size + 1 + 1 ≤ w2.heap.size) := Nat.le_trans (Nat.succ_le_of_lt HZ.out) HS2.out
      have O3 : Hid (Own3 ((w2.alloc (.cells #[] 2)).alloc (.cells #[] 2)) (w.heap.size + 1 + 1) (.slice A ts.length c) (.slice (some ⟨w2.heap.size, 0, none⟩) 0 0) (.slice (some ⟨w2.heap.size + 1, 0, none⟩) 0 0) ⟨ts, [], []⟩) := by
        have o1 : OwnR w2 (w.heap.size + 1 + 1) (.slice A ts.length c) ts := World.ownsRow.mono HO.out (Nat.le_succ_of_le (Nat.succ_le_of_lt HZ.out))
        have o2 := lit_own w2 (w.heap.size + 1 + 1) #[] [] rfl HZ2.out (by simp)
        have o3 := lit_own (w2.alloc (.cells #[] 2)) (w.heap.size + 1 + 1) #[] [] rfl (by have := HZ2.out; simp; omega) (by simp)
        rw [show (w2.alloc (.cells #[] 2)).heap.size = w2.heap.size + 1 by simp] at o3
        refine ⟨(World.ownsRow.alloc o1 _).alloc _, World.ownsRow.alloc o2 _, o3, fun k h h' => ?_, fun k h h' => ?_, own_at_ne (by omega)⟩
        · have := (World.ownsRow.lt o1 k h).2
          have e2 : w2.heap.size = k := by injection h'
          omega
        · have := (World.ownsRow.lt o1 k h).2
          have e2 : w2.heap.size + 1 = k := by injection h'
          omega
      have r0 := R1.out.at 0 _ rfl
      have r1 := R1.out.at 1 _ rfl
      have r2 := R1.out.at 2 _ rfl
      have f0 := R1.out.f 0
      have f1 := R1.out.f 1
      have f2 := R1.out.f 2
      obtain ⟨s0, s1, s2⟩ := set_three r0 r1 r2
      have OF := Lib.hid (((O3.out.low (b := w.heap.size + 1) (j := 0) (u := .slice A ts.length c) (by omega)).low (b := w.heap.size + 1) (j := 1) (u := .slice (some ⟨w2.heap.size, 0, none⟩) 0 0) (by omega)).low (b := w.heap.size + 1) (j := 2) (u := .slice (some ⟨w2.heap.size + 1, 0, none⟩) 0 0) (by omega))
      go_wp2
      refine bodyPost_ret (v := .tuple #[.agg #[.slice A ts.length c, .slice (some ⟨w2.heap.size, 0, none⟩) 0 0, .slice (some ⟨w2.heap.size + 1, 0, none⟩) 0 0], .int .i64 0]) ?_ rfl ⟨_, _, _, _, _, rfl, OF.out.more (by omega), ?_, ext_set (ext_set (ext_set E1.out (by simp) _) (by simp) _) (by simp) _⟩
      · simp [results, Tryz.results92, go_sem, s0, s1, s2]
      · have := HL.out
        simp
        omega
end Go.Proofs.YtjgafjbccfjojaaGreat
namespace Go.Proofs.YtjgafjbccfjojaaGreat
open Go.RowKit Go.Sort
/-- The state of a draw of a source: the result's box, the source's box with its three rows, the source of numbers. -/
structure SX (g B N b : Nat) (s : So) (v1 v2 v3 : Value) (w W : World) : Prop where
  src : Src g B N W
  keep : Keep g w W
  r : BoxV w.heap.size [.slice none 0 0, .slice none 0 0, .slice none 0 0] W
  x : BoxV b [v1, v2, v3] W
  o : Own3 W (w.heap.size + 1) v1 v2 v3 s
  f1 : v1.ownBlock ≠ some b
  f2 : v2.ownBlock ≠ some b
  f3 : v3.ownBlock ≠ some b
  hb : w.heap.size < b
  hg : g < w.heap.size
section
variable {g B N M b : Nat} {s : So} {v1 v2 v3 : Value} {w W W' : World}
theorem SX.kept (t : SX g B N b s v1 v2 v3 w W) (hs : Src g B M W') (k : Keep g W W') : SX g B M b s v1 v2 v3 w W' :=
  ⟨hs, t.keep.trans k, t.r.keepK k (by have := t.hg; omega), t.x.keepK k (by have := t.hg; have := t.hb; omega), t.o.kept k (by have := t.hg; omega), t.f1, t.f2, t.f3, t.hb, t.hg⟩
theorem SX.next (t : SX g B N b s v1 v2 v3 w W) (hb : Below W.heap.size W W') : SX g B N b s v1 v2 v3 w W' := t.kept (t.src.next hb) (Keep.of hb t.src.lt)
theorem SX.more (t : SX g B N b s v1 v2 v3 w W) (h : N ≤ M) : SX g B M b s v1 v2 v3 w W := ⟨t.src.more h, t.keep, t.r, t.x, t.o, t.f1, t.f2, t.f3, t.hb, t.hg⟩
theorem grown_ne {B k : Nat} {e : TypeId} {size n : Nat} {u v : Value} {xs : List Value} {g6 : Nat} {W : World} (h : W.ownsRow B e size u n xs) (hk : u.ownBlock = some k) (hne : ∀ k, v.ownBlock = some k → u.ownBlock ≠ some k) (hat : v.ownBlock = some g6 ∨ g6 = W.heap.size) : ¬ k = g6 := fun e => by
  subst e
  rcases hat with h1 | h1
  · exact hne _ h1 hk
  · have := (h.lt k hk).2
    omega
theorem own_grown {W W' : World} {B : Nat} {e : TypeId} {size n : Nat} {u v : Value} {xs : List Value} (h : W.ownsRow B e size u n xs) (hgr : W.grownBy W' v.ownBlock) (hne : ∀ k, v.ownBlock = some k → u.ownBlock ≠ some k) : W'.ownsRow B e size u n xs := by
  cases hu : u.ownBlock with
  | none => exact h.kept hgr (.inl hu)
  | some k => exact h.kept hgr (.inr (by
      intro e2
      exact hne k (e2.symm.trans hu) hu))
theorem own_snoc {W : World} {b j B : Nat} {u v : Value} {xs : List Int} {y : Int} (h : W.ownsRow B 2 1 v (xs.length + 1) (xs.map (Value.int .i64) ++ [.int .i64 y])) (hf : v.ownBlock ≠ some b) : OwnR (W.setCell ⟨b, j, none⟩ u) B v (xs ++ [y]) := by
  have h2 := own_off (j := j) (u := u) h hf
  unfold OwnR
  rw [List.length_append, List.map_append]
  exact h2
/-- What an append to a row leaves alone. -/
theorem SX.grow (t : SX g B N b s v1 v2 v3 w W) {v : Value} {n : Nat} {xs : List Value} (hv : W.ownsRow (w.heap.size + 1) 2 1 v n xs) (hgr : W.grownBy W' v.ownBlock) (hf : v.ownBlock ≠ some b) : Src g B N W' ∧ Keep g w W' ∧ BoxV w.heap.size [.slice none 0 0, .slice none 0 0, .slice none 0 0] W' ∧ BoxV b [v1, v2, v3] W' := by
  have hl := fun k hk => (hv.lt k hk).1
  have hg := t.hg
  have hb := t.hb
  have hs := t.keep.2.1
  exact ⟨t.src.grown hgr (fun k hk => by have := hl k hk; omega), ⟨t.keep.1.grown hgr (by omega) (fun k hk => by have := hl k hk; omega), Nat.le_trans hs hgr.size, fun c hc hlt =>
    (hgr.block c (Nat.lt_of_lt_of_le hlt hs) (fun e => by have := hl c e.symm; omega)).trans (t.keep.2.2 c hc hlt)⟩, t.r.grown hgr (fun e => by have := hl _ e; omega), t.x.grown hgr hf⟩
/-- Behind an append to the first row. -/
theorem SX.push1 (t : SX g B N b s v1 v2 v3 w W) {y : Int} {g6 c6 : Nat} (hown : W'.ownsRow (w.heap.size + 1) 2 1 (.slice (some ⟨g6, 0, none⟩) (s.hd.length + 1) c6) (s.hd.length + 1) (s.hd.map (Value.int .i64) ++ [.int .i64 y])) (hgr : W.grownBy W' v1.ownBlock) (hat : v1.ownBlock = some g6 ∨ g6 = W.heap.size) :
    SX g B N b { s with hd := s.hd ++ [y] } (.slice (some ⟨g6, 0, none⟩) (s.hd.length + 1) c6) v2 v3 w (W'.setCell ⟨b, 0, none⟩ (.slice (some ⟨g6, 0, none⟩) (s.hd.length + 1) c6)) := by
  have hf : (Value.slice (some ⟨g6, 0, none⟩) (s.hd.length + 1) c6).ownBlock ≠ some b := fun e => by
    have e2 : g6 = b := by injection e
    rcases hat with h | h
    · exact t.f1 (by rw [h, e2])
    · have := t.x.lt
      omega
  obtain ⟨s2, k2, r2, x2⟩ := t.grow t.o.o1 hgr t.f1
  have hg := t.hg
  have hb := t.hb
  refine ⟨s2.setOther (Nat.lt_trans hg hb) _ _, k2.setOther hg (Nat.le_of_lt hb) _ _, r2.setFar _ (by omega), x2.set 0 _ (by simp), ⟨own_snoc hown hf, own_off (own_grown t.o.o2 hgr t.o.n12) t.f2, own_off (own_grown t.o.o3 hgr t.o.n13) t.f3, (fun k h h' => grown_ne t.o.o2 h' t.o.n12 hat (by injection h with h; exact h.symm)), (fun k h h' => grown_ne t.o.o3 h' t.o.n13 hat (by injection h with h; exact h.symm)), t.o.n23⟩, hf, t.f2, t.f3, hb, hg⟩
/-- Behind an append to the second row. -/
theorem SX.push2 (t : SX g B N b s v1 v2 v3 w W) {y : Int} {g6 c6 : Nat} (hown : W'.ownsRow (w.heap.size + 1) 2 1 (.slice (some ⟨g6, 0, none⟩) (s.pd.length + 1) c6) (s.pd.length + 1) (s.pd.map (Value.int .i64) ++ [.int .i64 y])) (hgr : W.grownBy W' v2.ownBlock) (hat : v2.ownBlock = some g6 ∨ g6 = W.heap.size) :
    SX g B N b { s with pd := s.pd ++ [y] } v1 (.slice (some ⟨g6, 0, none⟩) (s.pd.length + 1) c6) v3 w (W'.setCell ⟨b, 1, none⟩ (.slice (some ⟨g6, 0, none⟩) (s.pd.length + 1) c6)) := by
  have hf : (Value.slice (some ⟨g6, 0, none⟩) (s.pd.length + 1) c6).ownBlock ≠ some b := fun e => by
    have e2 : g6 = b := by injection e
    rcases hat with h | h
    · exact t.f2 (by rw [h, e2])
    · have := t.x.lt
      omega
  obtain ⟨s2, k2, r2, x2⟩ := t.grow t.o.o2 hgr t.f2
  have hg := t.hg
  have hb := t.hb
  refine ⟨s2.setOther (Nat.lt_trans hg hb) _ _, k2.setOther hg (Nat.le_of_lt hb) _ _, r2.setFar _ (by omega), x2.set 1 _ (by simp), ⟨own_off (own_grown t.o.o1 hgr (fun k h h' => t.o.n12 k h' h)) t.f1, own_snoc hown hf, own_off (own_grown t.o.o3 hgr t.o.n23) t.f3, (fun k h h' => grown_ne t.o.o1 h (fun k h h' => t.o.n12 k h' h) hat (by injection h' with h'; exact h'.symm)), t.o.n13, (fun k h h' => grown_ne t.o.o3 h' t.o.n23 hat (by injection h with h; exact h.symm))⟩, t.f1, hf, t.f3, hb, hg⟩
/-- Behind an append to the third row. -/
theorem SX.push3 (t : SX g B N b s v1 v2 v3 w W) {y : Int} {g6 c6 : Nat} (hown : W'.ownsRow (w.heap.size + 1) 2 1 (.slice (some ⟨g6, 0, none⟩) (s.gr.length + 1) c6) (s.gr.length + 1) (s.gr.map (Value.int .i64) ++ [.int .i64 y])) (hgr : W.grownBy W' v3.ownBlock) (hat : v3.ownBlock = some g6 ∨ g6 = W.heap.size) :
    SX g B N b { s with gr := s.gr ++ [y] } v1 v2 (.slice (some ⟨g6, 0, none⟩) (s.gr.length + 1) c6) w (W'.setCell ⟨b, 2, none⟩ (.slice (some ⟨g6, 0, none⟩) (s.gr.length + 1) c6)) := by
  have hf : (Value.slice (some ⟨g6, 0, none⟩) (s.gr.length + 1) c6).ownBlock ≠ some b := fun e => by
    have e2 : g6 = b := by injection e
    rcases hat with h | h
    · exact t.f3 (by rw [h, e2])
    · have := t.x.lt
      omega
  obtain ⟨s2, k2, r2, x2⟩ := t.grow t.o.o3 hgr t.f3
  have hg := t.hg
  have hb := t.hb
  refine ⟨s2.setOther (Nat.lt_trans hg hb) _ _, k2.setOther hg (Nat.le_of_lt hb) _ _, r2.setFar _ (by omega), x2.set 2 _ (by simp), ⟨own_off (own_grown t.o.o1 hgr (fun k h h' => t.o.n13 k h' h)) t.f1, own_off (own_grown t.o.o2 hgr (fun k h h' => t.o.n23 k h' h)) t.f2, own_snoc hown hf, t.o.n12, (fun k h h' => grown_ne t.o.o1 h (fun k h h' => t.o.n13 k h' h) hat (by injection h' with h'; exact h'.symm)), (fun k h h' => grown_ne t.o.o2 h (fun k h h' => t.o.n23 k h' h) hat (by injection h' with h'; exact h'.symm))⟩, t.f1, t.f2, hf, hb, hg⟩
theorem SX.fin (t : SX g B N b s v1 v2 v3 w W) (hM : N ≤ M) (a0 a1 a2 : Value) :
    let Z := ((W.setCell ⟨w.heap.size, 0, none⟩ a0).setCell ⟨w.heap.size, 1, none⟩ a1).setCell ⟨w.heap.size, 2, none⟩ a2
    Own3 Z (w.heap.size + 1) v1 v2 v3 s ∧ Src g B M Z ∧ Keep g w Z := by
  have hg := t.hg
  refine ⟨?_, ?_, ?_⟩
  · exact ((t.o.low (Nat.lt_succ_self _)).low (Nat.lt_succ_self _)).low (Nat.lt_succ_self _)
  · iterate 3 (refine Src.setOther ?_ hg _ _)
    exact t.src.more hM
  · iterate 3 (refine Keep.setOther ?_ hg (Nat.le_refl _) _ _)
    exact t.keep
end
/-- The three rows of a source that is begun, and its box. -/
theorem SX.start {g B N : Nat} {w W : World} (hs : Src g B N W) (hk : Keep g w W) (hr : BoxV w.heap.size [.slice none 0 0, .slice none 0 0, .slice none 0 0] W) (hg : g < w.heap.size) (x : Int) (T : TypeId) :
    SX g B N (W.heap.size + 1 + 1 + 1) ⟨[x], [], []⟩ (.slice (some ⟨W.heap.size, 0, none⟩) 1 1) (.slice (some ⟨W.heap.size + 1, 0, none⟩) 0 0) (.slice (some ⟨W.heap.size + 1 + 1, 0, none⟩) 0 0) w
      ((((W.alloc (.cells #[.int .i64 x] 2)).alloc (.cells #[] 2)).alloc (.cells #[] 2)).alloc (.cells #[.slice (some ⟨W.heap.size, 0, none⟩) 1 1, .slice (some ⟨W.heap.size + 1, 0, none⟩) 0 0, .slice (some ⟨W.heap.size + 1 + 1, 0, none⟩) 0 0] T)) := by
  have hl := hr.lt
  have O := lit3_own W (w.heap.size + 1) #[.int .i64 x] #[] #[] [x] [] [] rfl rfl rfl hl (by simp)
  have e4 : (((W.alloc (.cells #[.int .i64 x] 2)).alloc (.cells #[] 2)).alloc (.cells #[] 2)).heap.size = W.heap.size + 1 + 1 + 1 := by simp
  have hb : Below W.heap.size W ((((W.alloc (.cells #[.int .i64 x] 2)).alloc (.cells #[] 2)).alloc (.cells #[] 2)).alloc (.cells #[.slice (some ⟨W.heap.size, 0, none⟩) 1 1, .slice (some ⟨W.heap.size + 1, 0, none⟩) 0 0, .slice (some ⟨W.heap.size + 1 + 1, 0, none⟩) 0 0] T)) := ext_alloc (ext_alloc (ext_alloc (ext1 _ _) _) _) _
  have X := BoxV.new (((W.alloc (.cells #[.int .i64 x] 2)).alloc (.cells #[] 2)).alloc (.cells #[] 2)) #[.slice (some ⟨W.heap.size, 0, none⟩) 1 1, .slice (some ⟨W.heap.size + 1, 0, none⟩) 0 0, .slice (some ⟨W.heap.size + 1 + 1, 0, none⟩) 0 0] T
  rw [e4] at X
  have ne : ∀ a n c, ¬ a = W.heap.size + 1 + 1 + 1 → (Value.slice (some ⟨a, 0, none⟩) n c).ownBlock ≠ some (W.heap.size + 1 + 1 + 1) := fun a n c h e => by
    have e2 : a = W.heap.size + 1 + 1 + 1 := by injection e
    exact h e2
  exact ⟨hs.next hb, hk.trans (Keep.of hb hs.lt), hr.next hb, X, O.next (ext1 _ _), ne _ _ _ (by omega), ne _ _ _ (by omega), ne _ _ _ (by omega), by omega, hg⟩
/-- What a draw of a source returns. -/
def RetSx (g B N : Nat) (w : World) (e : Ending) (w' : World) : Prop := ∃ (s : So) (v1 v2 v3 : Value), e = .returned (.agg #[v1, v2, v3]) ∧ Own3 w' (w.heap.size + 1) v1 v2 v3 s ∧ (s.hd.length ≤ 30 ∧ s.pd.length ≤ 30 ∧ s.gr.length ≤ 30) ∧ Src g B N w' ∧ Keep g w w'
end Go.Proofs.YtjgafjbccfjojaaGreat
