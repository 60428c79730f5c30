/- The reference's reader of notes: the walks. No condition but those that each theorem names. -/
import Derived.Test.YtpnabggpdgjbmaaGreatDoorMgBN
import Derived.Test.YtpnabggpdgjbmaaGreatDoorMgAO
import Derived.Deep.RegionLaw
import Derived.Deep.AppendLies
import Derived.Deep.DeepCutAuto
namespace Go.Proofs.YtpnabggpdgjbmaaGreatDoor
open Go.RowKit Go.Sort
set_option maxRecDepth 100000 in
set_option maxHeartbeats 8000000 in
theorem noteS_any (g : Nat) (S : ByteArray) (D : List Int) (ok : Bool) (w : World) (h : StS g S D ok w) (hS : S.size ≤ 1048576) :
    Calls Tryz.prog 67 #[.pointer (some ⟨g, 0, none⟩)] w (RetUn (StS g S) g D ok w) := by
  obtain ⟨ti, hi, hz0, hz1, hz2⟩ := info_parts info64
  have HI := Lib.hid hi
  have HG := Lib.hid h.lt
  have H := Lib.hid (h.next (ext1 w (.cells #[.string ⟨#[]⟩, .int .i64 0, .int .i64 0, .int .i64 0, .slice none 0 0, .int .i64 0, .int .i64 0, .int .i64 0] 31)))
  have K := Lib.hid (Keep.of (ext1 w (.cells #[.string ⟨#[]⟩, .int .i64 0, .int .i64 0, .int .i64 0, .slice none 0 0, .int .i64 0, .int .i64 0, .int .i64 0] 31)) h.lt)
  have R := Lib.hid (BoxV.new w #[.string ⟨#[]⟩, .int .i64 0, .int .i64 0, .int .i64 0, .slice none 0 0, .int .i64 0, .int .i64 0, .int .i64 0] 31)
  clear h hi
  go_enter Tryz.func67, Tryz.ntmps67
  go_wp2_with fail
  generalize w.alloc (.cells #[.string ⟨#[]⟩, .int .i64 0, .int .i64 0, .int .i64 0, .slice none 0 0, .int .i64 0, .int .i64 0, .int .i64 0] 31) = W0 at *
  refine (byte_any g S D ok _ H.out hS).mono ?_
  rintro e w1 ⟨c, D1, o1, rfl, hb, S1, K1⟩
  have HB1 := Lib.hid hb
  have hc5 : c ≤ 255 := hb.1
  replace K := Lib.hid (K.out.trans K1)
  replace R := Lib.hid (R.out.keepU K1 (by have := HG.out; omega))
  obtain ⟨p, hp, hD, hB⟩ := S1
  have HBX := Lib.hid hB
  have HD := Lib.hid hD
  have x0 := hB.at 0 _ rfl
  have x1 := hB.at 1 _ rfl
  have x2 := hB.at 2 _ rfl
  have y0 := hB.f 0
  have y1 := hB.f 1
  have y2 := hB.f 2
  have hDl : D1.length = S.size - p := by rw [← hD, List.length_drop, byI_length]
  have w1' : IntKind.i64.wrap ((p : Int) + (c : Int)) = (p : Int) + (c : Int) := IntWalk.i64_in _ (by omega)
  clear hb K1 H hB hD
  by_cases hgo : o1 = true ∧ p + c ≤ S.size
  · obtain ⟨ho, hle⟩ := hgo
    subst ho
    have l1 : ¬ (S.size : Int) < (p : Int) + (c : Int) := by omega
    have i1 : (p : Int) + (c : Int) ≤ (S.size : Int) := by omega
    have i2 : (p : Int) ≤ (p : Int) + (c : Int) := by omega
    have i3 : (0 : Int) ≤ (p : Int) := by omega
    have i4 : ((p : Int) + (c : Int)).toNat = p + c := by omega
    have HN : Hid (NamP D1 true c (S.extract p (p + c)) (D1.drop c) true) := by
      have h := NamP.of (R := S.extract p S.size) (E := D1) (o := true) (n := c) (s := S.extract p (p + c)) (E' := D1.drop c)
        (by rw [byI_ext, HD.out, List.take_of_length_le (by omega)]) (by have := byI_length (S.extract p S.size); rw [byI_ext, HD.out, List.take_of_length_le (by omega)] at this; omega) hc5
        (by rw [byI_ext, HD.out, show p + c - p = c by omega]) rfl
      exact h
    have HQ : Hid (∀ n, BoxV g [.string S, .int .i64 p, .bool true] (w1.drewN n) ∧ Keep g w (w1.drewN n) ∧ BoxV w.heap.size ntZv (w1.drewN n)) := fun n => ⟨⟨HBX.out.c, HBX.out.f, HBX.out.lt⟩, K.out.drewN2 n, ⟨R.out.c, R.out.f, R.out.lt⟩⟩
    go_wp2_with fail
    go_quiet (fail)
    obtain ⟨B2, K2, R2⟩ := HQ.out nq
    clear x0 x1 x2 y0 y1 y2 HBX K R HQ
    generalize w1.drewN nq = W1 at *
    have x0 := B2.at 0 _ rfl
    have x1 := B2.at 1 _ rfl
    have y0 := B2.f 0
    have y1 := B2.f 1
    have hlt := B2.lt
    have X2 : W1.drew.cell? ⟨g, 0, none⟩ = some (.string S) ∧ W1.drew.cell? ⟨g, 1, none⟩ = some (.int .i64 p) := ⟨x0, x1⟩
    have HXA : ∀ (V : World) (o : Obj), (V.cell? ⟨g, 0, none⟩ = some (.string S) ∧ V.cell? ⟨g, 1, none⟩ = some (.int .i64 p)) ∧ g < V.heap.size → ((V.alloc o).cell? ⟨g, 0, none⟩ = some (.string S) ∧ (V.alloc o).cell? ⟨g, 1, none⟩ = some (.int .i64 p)) := fun V o h => ⟨(World.cell?_alloc_lt _ _ _ h.2).trans h.1.1, (World.cell?_alloc_lt _ _ _ h.2).trans h.1.2⟩
    go_wp2_with fail
    go_region_held3 (fun W => W.cell? ⟨g, 0, none⟩ = some (.string S) ∧ W.cell? ⟨g, 1, none⟩ = some (.int .i64 p))
      (first | with_reducible exact X2 | go_keep)
      (fail)
    · skip
      have e1 := ext1 W1 (.cells #[] 2)
      have e2 := ext1 (W1.alloc (.cells #[] 2)) (.cells #[.string (S.extract p (p + c)), .int .i64 0, .int .i64 0, .int .i64 0, .slice (some ⟨W1.heap.size, 0, none⟩) 0 0, .int .i64 0, .int .i64 0, .int .i64 0] 31)
      have e3 : Below W1.heap.size W1 (((W1.alloc (.cells #[] 2)).alloc (.cells #[.string (S.extract p (p + c)), .int .i64 0, .int .i64 0, .int .i64 0, .slice (some ⟨W1.heap.size, 0, none⟩) 0 0, .int .i64 0, .int .i64 0, .int .i64 0] 31)).drew) := ext_drew (ext_trans e1 e2)
      have HBG := Lib.hid (B2.next e3)
      have T : Hid (UI g (W1.heap.size + 1) ⟨S.extract p (p + c), 0, 0, 0, [], 0, 0, 0⟩ (.slice (some ⟨W1.heap.size, 0, none⟩) 0 0) w (((W1.alloc (.cells #[] 2)).alloc (.cells #[.string (S.extract p (p + c)), .int .i64 0, .int .i64 0, .int .i64 0, .slice (some ⟨W1.heap.size, 0, none⟩) 0 0, .int .i64 0, .int .i64 0, .int .i64 0] 31)).drew)) := by
        refine ⟨K2.trans (Keep.of e3 hlt), R2.next e3, by
          have h := (BoxV.new (W1.alloc (.cells #[] 2)) #[.string (S.extract p (p + c)), .int .i64 0, .int .i64 0, .int .i64 0, .slice (some ⟨W1.heap.size, 0, none⟩) 0 0, .int .i64 0, .int .i64 0, .int .i64 0] 31).drew
          simp only [World.size_alloc] at h
          exact h, World.ownsRow.drew (World.ownsRow.alloc (by
          have h := World.ownsRow_lit (base := w.heap.size + 1) (e := 2) (size := 1) W1 #[] 0 (by have := R2.lt; omega) (by unfold maxLen; omega) rfl
          simpa using h) _), by simp [Value.ownBlock], by have := R2.lt; omega, HG.out⟩
      clear e1 e2 e3 K2 R2 B2 HXA X2 x0 x1 y0 y1 hlt
      generalize (((W1.alloc (.cells #[] 2)).alloc (.cells #[.string (S.extract p (p + c)), .int .i64 0, .int .i64 0, .int .i64 0, .slice (some ⟨W1.heap.size, 0, none⟩) 0 0, .int .i64 0, .int .i64 0, .int .i64 0] 31)).drew) = W2 at *
      generalize W1.heap.size + 1 = b at *
      generalize W1.heap.size = a at *
      have x1 : W2.cell? ⟨g, 1, none⟩ = some (.int .i64 p) := HBG.out.at 1 _ rfl
      have y1 := HBG.out.f 1
      have w1'' : IntKind.i64.wrap ((p : Int) + (c : Int)) = (p : Int) + (c : Int) := IntWalk.i64_in _ (by omega)
      have H : Hid (StS g S (D1.drop c) true (W2.setCell ⟨g, 1, none⟩ (.int .i64 ((p : Int) + (c : Int))))) := ⟨p + c, hle, by rw [← HD.out, List.drop_drop], by simpa using HBG.out.set 1 (.int .i64 ((p : Int) + (c : Int))) (by simp)⟩
      replace T := Lib.hid (T.out.kept (W' := W2.setCell ⟨g, 1, none⟩ (.int .i64 ((p : Int) + (c : Int)))) ((Keep.refl g W2).set 1 _))
      generalize S.extract p (p + c) = nm at *
      clear HBG HD l1 i1 i2 i3
      go_upto_region 7 with fail
      generalize W2.setCell ⟨g, 1, none⟩ (.int .i64 ((p : Int) + (c : Int))) = W4 at *
      clear x1 y1 w1' w1''
      go_wp2_with fail
      refine (byte_any g S _ _ _ H.out hS).mono ?_
      rintro e w3 ⟨kd, D3, o3, rfl, hb, S1, K1⟩
      have HED := Lib.hid (HedP.of HB1.out HN.out hb)
      replace T := Lib.hid (T.out.kept K1)
      have hk5 : kd ≤ 255 := hb.1
      have HH3 : Hid (∀ k : Int, StS g S D3 o3 (w3.setCell ⟨b, 1, none⟩ (.int .i64 k))) := fun k => S1.put (by have := T.out.hb; have := T.out.hg; omega) _
      have HT3 : Hid (∀ k : Int, UI g b ⟨nm, k, 0, 0, [], 0, 0, 0⟩ (.slice (some ⟨a, 0, none⟩) 0 0) w (w3.setCell ⟨b, 1, none⟩ (.int .i64 k))) := fun k => T.out.kind k
      have hcw : IntKind.i64.wrap (kd : Int) = (kd : Int) := IntWalk.i64_in _ (by omega)
      have hD3 : D3.length ≤ 1048576 := by
        have h1 := hb.len.1
        rw [List.length_drop] at h1
        omega
      clear S1 K1 hb HB1 HN H
      have Q := Lib.hid (SeqP.nil D3 o3)
      by_cases hka : kd = 1
      · skip
        subst hka
        have u0 := T.out.s.at 0 _ rfl
        have v0 := T.out.s.f 0
        have u1 := T.out.s.at 1 _ rfl
        have v1 := T.out.s.f 1
        have u2 := T.out.s.at 2 _ rfl
        have v2 := T.out.s.f 2
        have u3 := T.out.s.at 3 _ rfl
        have v3 := T.out.s.f 3
        have u4 := T.out.s.at 4 _ rfl
        have v4 := T.out.s.f 4
        have u5 := T.out.s.at 5 _ rfl
        have v5 := T.out.s.f 5
        have u6 := T.out.s.at 6 _ rfl
        have v6 := T.out.s.f 6
        have u7 := T.out.s.at 7 _ rfl
        have v7 := T.out.s.f 7
        have H := Lib.hid (HH3.out 1)
        replace T := Lib.hid (HT3.out 1)
        clear HH3 HT3 hk5
        go_upto_region 8 with fail
        generalize w3.setCell ⟨b, 1, none⟩ (.int .i64 1) = W3 at *
        clear u0 v0 u1 v1 u2 v2 u3 v3 u4 v4 u5 v5 u6 v6 u7 v7
        have u0 := T.out.s.at 0 _ rfl
        have v0 := T.out.s.f 0
        have u1 := T.out.s.at 1 _ rfl
        have v1 := T.out.s.f 1
        have u2 := T.out.s.at 2 _ rfl
        have v2 := T.out.s.f 2
        have u3 := T.out.s.at 3 _ rfl
        have v3 := T.out.s.f 3
        have u4 := T.out.s.at 4 _ rfl
        have v4 := T.out.s.f 4
        have u5 := T.out.s.at 5 _ rfl
        have v5 := T.out.s.f 5
        have u6 := T.out.s.at 6 _ rfl
        have v6 := T.out.s.f 6
        have u7 := T.out.s.at 7 _ rfl
        have v7 := T.out.s.f 7
        go_wp2_with fail
        refine (numberS_any g S _ _ _ H.out hS).mono ?_
        rintro e w5 ⟨n1, E_n1, o_n1, rfl, hn, S5, K5⟩
        replace Q := Lib.hid (SeqP.snoc Q.out hn)
        replace T := Lib.hid (T.out.kept K5)
        replace H := Lib.hid (S5.put (b := b) (j := 2) (by have := T.out.hb; have := T.out.hg; omega) (.int .i64 n1))
        clear hn S5 K5
        have u0 := T.out.s.at 0 _ rfl
        have v0 := T.out.s.f 0
        have u1 := T.out.s.at 1 _ rfl
        have v1 := T.out.s.f 1
        have u2 := T.out.s.at 2 _ rfl
        have v2 := T.out.s.f 2
        have u3 := T.out.s.at 3 _ rfl
        have v3 := T.out.s.f 3
        have u4 := T.out.s.at 4 _ rfl
        have v4 := T.out.s.f 4
        have u5 := T.out.s.at 5 _ rfl
        have v5 := T.out.s.f 5
        have u6 := T.out.s.at 6 _ rfl
        have v6 := T.out.s.f 6
        have u7 := T.out.s.at 7 _ rfl
        have v7 := T.out.s.f 7
        replace T := Lib.hid (T.out.num n1)
        go_upto_region 14 with fail
        generalize w5.setCell ⟨b, 2, none⟩ (.int .i64 n1) = W5 at *
        clear u0 v0 u1 v1 u2 v2 u3 v3 u4 v4 u5 v5 u6 v6 u7 v7
        go_wp2_with fail
        refine (numberS_any g S _ _ _ H.out hS).mono ?_
        rintro e w5 ⟨n2, E_n2, o_n2, rfl, hn, S5, K5⟩
        replace Q := Lib.hid (SeqP.snoc Q.out hn)
        replace T := Lib.hid (T.out.kept K5)
        replace H := Lib.hid (S5.put (b := b) (j := 3) (by have := T.out.hb; have := T.out.hg; omega) (.int .i64 n2))
        clear hn S5 K5
        have u0 := T.out.s.at 0 _ rfl
        have v0 := T.out.s.f 0
        have u1 := T.out.s.at 1 _ rfl
        have v1 := T.out.s.f 1
        have u2 := T.out.s.at 2 _ rfl
        have v2 := T.out.s.f 2
        have u3 := T.out.s.at 3 _ rfl
        have v3 := T.out.s.f 3
        have u4 := T.out.s.at 4 _ rfl
        have v4 := T.out.s.f 4
        have u5 := T.out.s.at 5 _ rfl
        have v5 := T.out.s.f 5
        have u6 := T.out.s.at 6 _ rfl
        have v6 := T.out.s.f 6
        have u7 := T.out.s.at 7 _ rfl
        have v7 := T.out.s.f 7
        replace T := Lib.hid (T.out.den n2)
        go_upto_region 21 with fail
        generalize w5.setCell ⟨b, 3, none⟩ (.int .i64 n2) = W5 at *
        clear u0 v0 u1 v1 u2 v2 u3 v3 u4 v4 u5 v5 u6 v6 u7 v7
        have u0 := T.out.s.at 0 _ rfl
        have v0 := T.out.s.f 0
        have u1 := T.out.s.at 1 _ rfl
        have v1 := T.out.s.f 1
        have u2 := T.out.s.at 2 _ rfl
        have v2 := T.out.s.f 2
        have u3 := T.out.s.at 3 _ rfl
        have v3 := T.out.s.f 3
        have u4 := T.out.s.at 4 _ rfl
        have v4 := T.out.s.f 4
        have u5 := T.out.s.at 5 _ rfl
        have v5 := T.out.s.f 5
        have u6 := T.out.s.at 6 _ rfl
        have v6 := T.out.s.f 6
        have u7 := T.out.s.at 7 _ rfl
        have v7 := T.out.s.f 7
        have r0 := T.out.r.at 0 _ rfl
        have f0 := T.out.r.f 0
        have r1 := T.out.r.at 1 _ rfl
        have f1 := T.out.r.f 1
        have r2 := T.out.r.at 2 _ rfl
        have f2 := T.out.r.f 2
        have r3 := T.out.r.at 3 _ rfl
        have f3 := T.out.r.f 3
        have r4 := T.out.r.at 4 _ rfl
        have f4 := T.out.r.f 4
        have r5 := T.out.r.at 5 _ rfl
        have f5 := T.out.r.f 5
        have r6 := T.out.r.at 6 _ rfl
        have f6 := T.out.r.f 6
        have r7 := T.out.r.at 7 _ rfl
        have f7 := T.out.r.f 7
        have HE := Lib.hid (UI.fin T.out)
        have HH : Hid (∀ a0 a1 a2 a3 a4 a5 a6 a7, StS g S _ _ ((((((((W5.setCell ⟨w.heap.size, 0, none⟩ a0).setCell ⟨w.heap.size, 1, none⟩ a1).setCell ⟨w.heap.size, 2, none⟩ a2).setCell ⟨w.heap.size, 3, none⟩ a3).setCell ⟨w.heap.size, 4, none⟩ a4).setCell ⟨w.heap.size, 5, none⟩ a5).setCell ⟨w.heap.size, 6, none⟩ a6).setCell ⟨w.heap.size, 7, none⟩ a7)) := fun a0 a1 a2 a3 a4 a5 a6 a7 => by
          have hne : w.heap.size ≠ g := by have := HG.out; omega
          iterate 8 (refine StS.put ?_ hne _)
          exact H.out
        have HP := Lib.hid (NotP.one HED.out Q.out)
        clear T H
        go_wp2
        refine bodyPost_ret ?_ rfl ⟨⟨nm, 1, n1, n2, [], 0, 0, 0⟩, _, _, _, rfl, HP.out, HH.out _ _ _ _ _ _ _ _, (HE.out _ _ _ _ _ _ _ _).2, (HE.out _ _ _ _ _ _ _ _).1⟩
        simp [results, Tryz.results67, go_sem, r0, r1, r2, r3, r4, r5, r6, r7]
      by_cases hkc : kd = 3
      · skip
        subst hkc
        have u0 := T.out.s.at 0 _ rfl
        have v0 := T.out.s.f 0
        have u1 := T.out.s.at 1 _ rfl
        have v1 := T.out.s.f 1
        have u2 := T.out.s.at 2 _ rfl
        have v2 := T.out.s.f 2
        have u3 := T.out.s.at 3 _ rfl
        have v3 := T.out.s.f 3
        have u4 := T.out.s.at 4 _ rfl
        have v4 := T.out.s.f 4
        have u5 := T.out.s.at 5 _ rfl
        have v5 := T.out.s.f 5
        have u6 := T.out.s.at 6 _ rfl
        have v6 := T.out.s.f 6
        have u7 := T.out.s.at 7 _ rfl
        have v7 := T.out.s.f 7
        have H := Lib.hid (HH3.out 3)
        replace T := Lib.hid (HT3.out 3)
        clear HH3 HT3 hk5
        go_upto_region 8 with fail
        generalize w3.setCell ⟨b, 1, none⟩ (.int .i64 3) = W3 at *
        clear u0 v0 u1 v1 u2 v2 u3 v3 u4 v4 u5 v5 u6 v6 u7 v7
        have u0 := T.out.s.at 0 _ rfl
        have v0 := T.out.s.f 0
        have u1 := T.out.s.at 1 _ rfl
        have v1 := T.out.s.f 1
        have u2 := T.out.s.at 2 _ rfl
        have v2 := T.out.s.f 2
        have u3 := T.out.s.at 3 _ rfl
        have v3 := T.out.s.f 3
        have u4 := T.out.s.at 4 _ rfl
        have v4 := T.out.s.f 4
        have u5 := T.out.s.at 5 _ rfl
        have v5 := T.out.s.f 5
        have u6 := T.out.s.at 6 _ rfl
        have v6 := T.out.s.f 6
        have u7 := T.out.s.at 7 _ rfl
        have v7 := T.out.s.f 7
        go_wp2_with fail
        refine (numberS_any g S _ _ _ H.out hS).mono ?_
        rintro e w5 ⟨n1, E_n1, o_n1, rfl, hn, S5, K5⟩
        replace Q := Lib.hid (SeqP.snoc Q.out hn)
        replace T := Lib.hid (T.out.kept K5)
        replace H := Lib.hid (S5.put (b := b) (j := 5) (by have := T.out.hb; have := T.out.hg; omega) (.int .i64 n1))
        clear hn S5 K5
        have u0 := T.out.s.at 0 _ rfl
        have v0 := T.out.s.f 0
        have u1 := T.out.s.at 1 _ rfl
        have v1 := T.out.s.f 1
        have u2 := T.out.s.at 2 _ rfl
        have v2 := T.out.s.f 2
        have u3 := T.out.s.at 3 _ rfl
        have v3 := T.out.s.f 3
        have u4 := T.out.s.at 4 _ rfl
        have v4 := T.out.s.f 4
        have u5 := T.out.s.at 5 _ rfl
        have v5 := T.out.s.f 5
        have u6 := T.out.s.at 6 _ rfl
        have v6 := T.out.s.f 6
        have u7 := T.out.s.at 7 _ rfl
        have v7 := T.out.s.f 7
        replace T := Lib.hid (T.out.sp n1)
        go_upto_region 10 with fail
        generalize w5.setCell ⟨b, 5, none⟩ (.int .i64 n1) = W5 at *
        clear u0 v0 u1 v1 u2 v2 u3 v3 u4 v4 u5 v5 u6 v6 u7 v7
        go_wp2_with fail
        refine (numberS_any g S _ _ _ H.out hS).mono ?_
        rintro e w5 ⟨n2, E_n2, o_n2, rfl, hn, S5, K5⟩
        replace Q := Lib.hid (SeqP.snoc Q.out hn)
        replace T := Lib.hid (T.out.kept K5)
        replace H := Lib.hid (S5.put (b := b) (j := 6) (by have := T.out.hb; have := T.out.hg; omega) (.int .i64 n2))
        clear hn S5 K5
        have u0 := T.out.s.at 0 _ rfl
        have v0 := T.out.s.f 0
        have u1 := T.out.s.at 1 _ rfl
        have v1 := T.out.s.f 1
        have u2 := T.out.s.at 2 _ rfl
        have v2 := T.out.s.f 2
        have u3 := T.out.s.at 3 _ rfl
        have v3 := T.out.s.f 3
        have u4 := T.out.s.at 4 _ rfl
        have v4 := T.out.s.f 4
        have u5 := T.out.s.at 5 _ rfl
        have v5 := T.out.s.f 5
        have u6 := T.out.s.at 6 _ rfl
        have v6 := T.out.s.f 6
        have u7 := T.out.s.at 7 _ rfl
        have v7 := T.out.s.f 7
        replace T := Lib.hid (T.out.sd n2)
        go_upto_region 11 with fail
        generalize w5.setCell ⟨b, 6, none⟩ (.int .i64 n2) = W5 at *
        clear u0 v0 u1 v1 u2 v2 u3 v3 u4 v4 u5 v5 u6 v6 u7 v7
        go_wp2_with fail
        refine (numberS_any g S _ _ _ H.out hS).mono ?_
        rintro e w5 ⟨n3, E_n3, o_n3, rfl, hn, S5, K5⟩
        replace Q := Lib.hid (SeqP.snoc Q.out hn)
        replace T := Lib.hid (T.out.kept K5)
        replace H := Lib.hid (S5.put (b := b) (j := 7) (by have := T.out.hb; have := T.out.hg; omega) (.int .i64 n3))
        clear hn S5 K5
        have u0 := T.out.s.at 0 _ rfl
        have v0 := T.out.s.f 0
        have u1 := T.out.s.at 1 _ rfl
        have v1 := T.out.s.f 1
        have u2 := T.out.s.at 2 _ rfl
        have v2 := T.out.s.f 2
        have u3 := T.out.s.at 3 _ rfl
        have v3 := T.out.s.f 3
        have u4 := T.out.s.at 4 _ rfl
        have v4 := T.out.s.f 4
        have u5 := T.out.s.at 5 _ rfl
        have v5 := T.out.s.f 5
        have u6 := T.out.s.at 6 _ rfl
        have v6 := T.out.s.f 6
        have u7 := T.out.s.at 7 _ rfl
        have v7 := T.out.s.f 7
        replace T := Lib.hid (T.out.sq n3)
        go_upto_region 21 with fail
        generalize w5.setCell ⟨b, 7, none⟩ (.int .i64 n3) = W5 at *
        clear u0 v0 u1 v1 u2 v2 u3 v3 u4 v4 u5 v5 u6 v6 u7 v7
        have u0 := T.out.s.at 0 _ rfl
        have v0 := T.out.s.f 0
        have u1 := T.out.s.at 1 _ rfl
        have v1 := T.out.s.f 1
        have u2 := T.out.s.at 2 _ rfl
        have v2 := T.out.s.f 2
        have u3 := T.out.s.at 3 _ rfl
        have v3 := T.out.s.f 3
        have u4 := T.out.s.at 4 _ rfl
        have v4 := T.out.s.f 4
        have u5 := T.out.s.at 5 _ rfl
        have v5 := T.out.s.f 5
        have u6 := T.out.s.at 6 _ rfl
        have v6 := T.out.s.f 6
        have u7 := T.out.s.at 7 _ rfl
        have v7 := T.out.s.f 7
        have r0 := T.out.r.at 0 _ rfl
        have f0 := T.out.r.f 0
        have r1 := T.out.r.at 1 _ rfl
        have f1 := T.out.r.f 1
        have r2 := T.out.r.at 2 _ rfl
        have f2 := T.out.r.f 2
        have r3 := T.out.r.at 3 _ rfl
        have f3 := T.out.r.f 3
        have r4 := T.out.r.at 4 _ rfl
        have f4 := T.out.r.f 4
        have r5 := T.out.r.at 5 _ rfl
        have f5 := T.out.r.f 5
        have r6 := T.out.r.at 6 _ rfl
        have f6 := T.out.r.f 6
        have r7 := T.out.r.at 7 _ rfl
        have f7 := T.out.r.f 7
        have HE := Lib.hid (UI.fin T.out)
        have HH : Hid (∀ a0 a1 a2 a3 a4 a5 a6 a7, StS g S _ _ ((((((((W5.setCell ⟨w.heap.size, 0, none⟩ a0).setCell ⟨w.heap.size, 1, none⟩ a1).setCell ⟨w.heap.size, 2, none⟩ a2).setCell ⟨w.heap.size, 3, none⟩ a3).setCell ⟨w.heap.size, 4, none⟩ a4).setCell ⟨w.heap.size, 5, none⟩ a5).setCell ⟨w.heap.size, 6, none⟩ a6).setCell ⟨w.heap.size, 7, none⟩ a7)) := fun a0 a1 a2 a3 a4 a5 a6 a7 => by
          have hne : w.heap.size ≠ g := by have := HG.out; omega
          iterate 8 (refine StS.put ?_ hne _)
          exact H.out
        have HP := Lib.hid (NotP.three HED.out Q.out)
        clear T H
        go_wp2
        refine bodyPost_ret ?_ rfl ⟨⟨nm, 3, 0, 0, [], n1, n2, n3⟩, _, _, _, rfl, HP.out, HH.out _ _ _ _ _ _ _ _, (HE.out _ _ _ _ _ _ _ _).2, (HE.out _ _ _ _ _ _ _ _).1⟩
        simp [results, Tryz.results67, go_sem, r0, r1, r2, r3, r4, r5, r6, r7]
      by_cases hkb : kd = 2
      · skip
        subst hkb
        have u0 := T.out.s.at 0 _ rfl
        have v0 := T.out.s.f 0
        have u1 := T.out.s.at 1 _ rfl
        have v1 := T.out.s.f 1
        have u2 := T.out.s.at 2 _ rfl
        have v2 := T.out.s.f 2
        have u3 := T.out.s.at 3 _ rfl
        have v3 := T.out.s.f 3
        have u4 := T.out.s.at 4 _ rfl
        have v4 := T.out.s.f 4
        have u5 := T.out.s.at 5 _ rfl
        have v5 := T.out.s.f 5
        have u6 := T.out.s.at 6 _ rfl
        have v6 := T.out.s.f 6
        have u7 := T.out.s.at 7 _ rfl
        have v7 := T.out.s.f 7
        have H := Lib.hid (HH3.out 2)
        replace T := Lib.hid (HT3.out 2)
        clear HH3 HT3 hk5
        go_upto_region 8 with fail
        generalize w3.setCell ⟨b, 1, none⟩ (.int .i64 2) = W3 at *
        clear u0 v0 u1 v1 u2 v2 u3 v3 u4 v4 u5 v5 u6 v6 u7 v7
        have u0 := T.out.s.at 0 _ rfl
        have v0 := T.out.s.f 0
        have u1 := T.out.s.at 1 _ rfl
        have v1 := T.out.s.f 1
        have u2 := T.out.s.at 2 _ rfl
        have v2 := T.out.s.f 2
        have u3 := T.out.s.at 3 _ rfl
        have v3 := T.out.s.f 3
        have u4 := T.out.s.at 4 _ rfl
        have v4 := T.out.s.f 4
        have u5 := T.out.s.at 5 _ rfl
        have v5 := T.out.s.f 5
        have u6 := T.out.s.at 6 _ rfl
        have v6 := T.out.s.f 6
        have u7 := T.out.s.at 7 _ rfl
        have v7 := T.out.s.f 7
        clear Q
        go_wp2_with fail
        refine (numberS_any g S _ _ _ H.out hS).mono ?_
        rintro e w5 ⟨n, E1, q1, rfl, hn, S5, K5⟩
        replace T := Lib.hid (T.out.kept K5)
        have HNU := Lib.hid hn
        have n1 := hn.1
        have n2 := hn.2.1
        have HE1 : E1.length ≤ 1048576 := by
          have h1 := HED.out.2.2.2.1
          have h2 := hn.2.2.2.2.1
          omega
        have H5 := Lib.hid S5
        have T5 := T
        clear hn S5 K5 u0 v0 u1 v1 u2 v2 u3 v3 u4 v4 u5 v5 u6 v6 u7 v7 H T
        go_wp2_with fail
        go_loopw [6] (fun t wr => ∃ (ts : List Int) (v : Value) (E : List Int) (o : Bool), t = .int .i64 (ts.length : Int) ∧ ts.length + E.length ≤ E1.length + 1 ∧ (o = true → ts.length + E.length ≤ E1.length) ∧ Hid ((ts.length : Int) ≤ n ∨ ts.length = 0) ∧ Hid (SeqP E1 q1 ts E o) ∧ Hid (StS g S E o wr) ∧ Hid (UI g b ⟨nm, 2, 0, 0, ts, 0, 0, 0⟩ v w wr)) (fun t _ => (n - intOf t).toNat)
        case atStart => exact ⟨[], _, E1, q1, by simp, by simp, by simp, .inr rfl, SeqP.nil _ _, H5.out, T5.out⟩
        case round =>
          obtain ⟨ts, v, E, o, rfl, hl1, hl2, HCN, Q, H, T⟩ := hrel
          clear H5 T5
          obtain ⟨A, cp, rfl⟩ := own_slice T.out.row
          have HL : Hid (ts.length + E.length ≤ E1.length + 1) := hl1
          have HB := Lib.hid H.out
          obtain ⟨p, hp, hR, hB⟩ := HB.out
          have x2 := hB.at 2 _ rfl
          clear hR hp
          by_cases hn0 : (ts.length : Int) < n
          · cases o
            · have HX : Hid (n ≤ (ts.length : Int) ∨ false = false) := .inr rfl
              clear hB hl1 hl2
              have u0 := T.out.s.at 0 _ rfl
              have v0 := T.out.s.f 0
              have u1 := T.out.s.at 1 _ rfl
              have v1 := T.out.s.f 1
              have u2 := T.out.s.at 2 _ rfl
              have v2 := T.out.s.f 2
              have u3 := T.out.s.at 3 _ rfl
              have v3 := T.out.s.f 3
              have u4 := T.out.s.at 4 _ rfl
              have v4 := T.out.s.f 4
              have u5 := T.out.s.at 5 _ rfl
              have v5 := T.out.s.f 5
              have u6 := T.out.s.at 6 _ rfl
              have v6 := T.out.s.f 6
              have u7 := T.out.s.at 7 _ rfl
              have v7 := T.out.s.f 7
              have r0 := T.out.r.at 0 _ rfl
              have f0 := T.out.r.f 0
              have r1 := T.out.r.at 1 _ rfl
              have f1 := T.out.r.f 1
              have r2 := T.out.r.at 2 _ rfl
              have f2 := T.out.r.f 2
              have r3 := T.out.r.at 3 _ rfl
              have f3 := T.out.r.f 3
              have r4 := T.out.r.at 4 _ rfl
              have f4 := T.out.r.f 4
              have r5 := T.out.r.at 5 _ rfl
              have f5 := T.out.r.f 5
              have r6 := T.out.r.at 6 _ rfl
              have f6 := T.out.r.f 6
              have r7 := T.out.r.at 7 _ rfl
              have f7 := T.out.r.f 7
              have HE := Lib.hid (UI.fin T.out)
              have HH : Hid (∀ a0 a1 a2 a3 a4 a5 a6 a7, StS g S _ _ ((((((((wr.setCell ⟨w.heap.size, 0, none⟩ a0).setCell ⟨w.heap.size, 1, none⟩ a1).setCell ⟨w.heap.size, 2, none⟩ a2).setCell ⟨w.heap.size, 3, none⟩ a3).setCell ⟨w.heap.size, 4, none⟩ a4).setCell ⟨w.heap.size, 5, none⟩ a5).setCell ⟨w.heap.size, 6, none⟩ a6).setCell ⟨w.heap.size, 7, none⟩ a7)) := fun a0 a1 a2 a3 a4 a5 a6 a7 => by
                have hne : w.heap.size ≠ g := by have := HG.out; omega
                iterate 8 (refine StS.put ?_ hne _)
                exact H.out
              have HP := Lib.hid (NotP.two HED.out HNU.out Q.out HL.out HCN.out HX.out)
              clear T H
              go_wp2
              refine bodyPost_ret ?_ rfl ⟨⟨nm, 2, 0, 0, ts, 0, 0, 0⟩, _, _, _, rfl, HP.out, HH.out _ _ _ _ _ _ _ _, (HE.out _ _ _ _ _ _ _ _).2, (HE.out _ _ _ _ _ _ _ _).1⟩
              simp [results, Tryz.results67, go_sem, r0, r1, r2, r3, r4, r5, r6, r7]
            · have hB1 := hl2 rfl
              clear hB hl1 hl2 HB
              have hbl := T.out.s.lt
              have hgl := H.out.lt
              have hbg : b ≠ g := by have := T.out.hb; have := T.out.hg; omega
              have hrg : (Value.slice A ts.length cp).ownBlock ≠ some g := fun e => by have := (T.out.row.lt _ e).1; have := T.out.hg; omega
              have T0 := T
              have H0 := H
              have u4 := T.out.s.at 4 _ rfl
              have v4 := T.out.s.f 4
              have hw1 : IntKind.i64.wrap ((ts.length : Int) + 1) = (ts.length : Int) + 1 := IntWalk.i64_in _ (by omega)
              go_wp2_with fail
              first | go_region_law (first
                | (go_simp; go_at_call 108; ((with_reducible refine (numberS_any g S E true _ (H0.out.next (ext_drew (Below.refl _ _))) hS).mono ?_); rintro e w3 ⟨y, E2, o2, rfl, hy, S3, K3'⟩; have K3 : Keep g wr w3 := (Keep.refl g wr).drew.trans K3'; have T3 := Lib.hid (T0.out.kept K3); have HY := Lib.hid hy; have H3 := Lib.hid S3; have hb3 : w.heap.size + 1 ≤ w3.heap.size + 1 := Nat.succ_le_succ T3.out.keep.2.1; have hb4 : b < w3.heap.size := T3.out.s.lt; have m4 := T3.out.s.at 4 _ rfl; have n4 := T3.out.s.f 4; have hrow3 : World.ownsRow (w3.alloc (.cells #[.int .i64 y] 2)) (w.heap.size + 1) 2 1 (.slice A ts.length cp) ts.length (ts.map (Value.int .i64)) := (T3.out.next (ext1 w3 (.cells #[.int .i64 y] 2))).row))
                | (refine step_append_lies _ (by rfl) _ _ _ (by rfl) (w.heap.size + 1) 2 ti (.int .i64 0) 1 8 Tryz.underlying27 HI.out hz0 hz1 hz2 rfl (by decide) _ _ _ (by rfl) hrow3 ⟨w3.heap.size, 0, none⟩ 1 1 [.int .i64 y] (by rfl) (by rfl) (news_rowN _ _ _ rfl) (by simp [Value.oneCell']) (by omega) (by unfold maxLen; omega) (by omega) (by simp only [World.size_alloc]; exact hb3) _ rfl ?_; intro g6 cap6 w6 hown6 hgrow hat hlt; have B6 := (T3.out.next (ext1 w3 (.cells #[.int .i64 y] 2))).s.grown hgrow T3.out.far; have z4 := B6.at 4 _ rfl; have G4 := B6.f 4)
                | fail) | fail
              all_goals
                have hf6 : (Value.slice (some ⟨g6, 0, none⟩) (ts.length + 1) cap6).ownBlock ≠ some b := by
                  intro e
                  have e2 : g6 = b := by injection e
                  rcases hat with h | h
                  · exact T3.out.far (by rw [h, e2])
                  · (try simp at h); omega
                have T := Lib.hid (UI.push (y := y) (T3.out.next (ext1 w3 (.cells #[.int .i64 y] 2))) hown6 hgrow hf6)
                have H : Hid (StS g S E2 o2 (w6.setCell ⟨b, 4, none⟩ (.slice (some ⟨g6, 0, none⟩) (ts.length + 1) cap6))) := ((H3.out.next (ext1 w3 (.cells #[.int .i64 y] 2))).grown hgrow hrg).put hbg _
                have HTL : Hid ((ts ++ [y]).length = ts.length + 1) := by unfold Hid; rw [List.length_append]; rfl
                have hE2 : E2.length ≤ E.length := HY.out.2.2.2.2.1
                have hE3 : o2 = true → E2.length < E.length := fun h => by
                  rcases HY.out.2.2.2.1 with h2 | h2
                  · rw [h] at h2; cases h2
                  · exact h2
                have Q2 := Lib.hid (SeqP.snoc Q.out HY.out)
                clear hf6 hown6 hgrow hat hlt B6 z4 G4 m4 n4 T3 K3 H3 T0 H0 hb3 hrg hrow3
                generalize w6.setCell ⟨b, 4, none⟩ (.slice (some ⟨g6, 0, none⟩) (ts.length + 1) cap6) = W5 at *
                go_wp2
                go_roundw
                case rel => exact ⟨ts ++ [y], _, E2, o2, by rw [HTL.out]; congr 1, by rw [HTL.out]; omega, fun h => by rw [HTL.out]; have := hE3 h; omega, .inl (by rw [HTL.out]; omega), Q2.out, H.out, T.out⟩
                case measure => simp [intOf]; omega
          · have HX : Hid (n ≤ (ts.length : Int) ∨ o = false) := .inl (by omega)
            clear hB hl1 hl2
            have u0 := T.out.s.at 0 _ rfl
            have v0 := T.out.s.f 0
            have u1 := T.out.s.at 1 _ rfl
            have v1 := T.out.s.f 1
            have u2 := T.out.s.at 2 _ rfl
            have v2 := T.out.s.f 2
            have u3 := T.out.s.at 3 _ rfl
            have v3 := T.out.s.f 3
            have u4 := T.out.s.at 4 _ rfl
            have v4 := T.out.s.f 4
            have u5 := T.out.s.at 5 _ rfl
            have v5 := T.out.s.f 5
            have u6 := T.out.s.at 6 _ rfl
            have v6 := T.out.s.f 6
            have u7 := T.out.s.at 7 _ rfl
            have v7 := T.out.s.f 7
            have r0 := T.out.r.at 0 _ rfl
            have f0 := T.out.r.f 0
            have r1 := T.out.r.at 1 _ rfl
            have f1 := T.out.r.f 1
            have r2 := T.out.r.at 2 _ rfl
            have f2 := T.out.r.f 2
            have r3 := T.out.r.at 3 _ rfl
            have f3 := T.out.r.f 3
            have r4 := T.out.r.at 4 _ rfl
            have f4 := T.out.r.f 4
            have r5 := T.out.r.at 5 _ rfl
            have f5 := T.out.r.f 5
            have r6 := T.out.r.at 6 _ rfl
            have f6 := T.out.r.f 6
            have r7 := T.out.r.at 7 _ rfl
            have f7 := T.out.r.f 7
            have HE := Lib.hid (UI.fin T.out)
            have HH : Hid (∀ a0 a1 a2 a3 a4 a5 a6 a7, StS g S _ _ ((((((((wr.setCell ⟨w.heap.size, 0, none⟩ a0).setCell ⟨w.heap.size, 1, none⟩ a1).setCell ⟨w.heap.size, 2, none⟩ a2).setCell ⟨w.heap.size, 3, none⟩ a3).setCell ⟨w.heap.size, 4, none⟩ a4).setCell ⟨w.heap.size, 5, none⟩ a5).setCell ⟨w.heap.size, 6, none⟩ a6).setCell ⟨w.heap.size, 7, none⟩ a7)) := fun a0 a1 a2 a3 a4 a5 a6 a7 => by
              have hne : w.heap.size ≠ g := by have := HG.out; omega
              iterate 8 (refine StS.put ?_ hne _)
              exact H.out
            have HP := Lib.hid (NotP.two HED.out HNU.out Q.out HL.out HCN.out HX.out)
            clear T H
            go_wp2
            refine bodyPost_ret ?_ rfl ⟨⟨nm, 2, 0, 0, ts, 0, 0, 0⟩, _, _, _, rfl, HP.out, HH.out _ _ _ _ _ _ _ _, (HE.out _ _ _ _ _ _ _ _).2, (HE.out _ _ _ _ _ _ _ _).1⟩
            simp [results, Tryz.results67, go_sem, r0, r1, r2, r3, r4, r5, r6, r7]
      have hk1 : ((kd : Int) == 1) = false := by simp; omega
      have hk2 : ((kd : Int) == 2) = false := by simp; omega
      have u0 := T.out.s.at 0 _ rfl
      have v0 := T.out.s.f 0
      have u1 := T.out.s.at 1 _ rfl
      have v1 := T.out.s.f 1
      have u2 := T.out.s.at 2 _ rfl
      have v2 := T.out.s.f 2
      have u3 := T.out.s.at 3 _ rfl
      have v3 := T.out.s.f 3
      have u4 := T.out.s.at 4 _ rfl
      have v4 := T.out.s.f 4
      have u5 := T.out.s.at 5 _ rfl
      have v5 := T.out.s.f 5
      have u6 := T.out.s.at 6 _ rfl
      have v6 := T.out.s.f 6
      have u7 := T.out.s.at 7 _ rfl
      have v7 := T.out.s.f 7
      have H := Lib.hid (HH3.out (kd : Int))
      replace T := Lib.hid (HT3.out (kd : Int))
      clear HH3 HT3 hk5
      go_upto_region 8 with fail
      generalize w3.setCell ⟨b, 1, none⟩ (.int .i64 (kd : Int)) = W3 at *
      clear u0 v0 u1 v1 u2 v2 u3 v3 u4 v4 u5 v5 u6 v6 u7 v7
      have u0 := T.out.s.at 0 _ rfl
      have v0 := T.out.s.f 0
      have u1 := T.out.s.at 1 _ rfl
      have v1 := T.out.s.f 1
      have u2 := T.out.s.at 2 _ rfl
      have v2 := T.out.s.f 2
      have u3 := T.out.s.at 3 _ rfl
      have v3 := T.out.s.f 3
      have u4 := T.out.s.at 4 _ rfl
      have v4 := T.out.s.f 4
      have u5 := T.out.s.at 5 _ rfl
      have v5 := T.out.s.f 5
      have u6 := T.out.s.at 6 _ rfl
      have v6 := T.out.s.f 6
      have u7 := T.out.s.at 7 _ rfl
      have v7 := T.out.s.f 7
      go_wp2_with fail
      refine (numberS_any g S _ _ _ H.out hS).mono ?_
      rintro e w5 ⟨n1, E_n1, o_n1, rfl, hn, S5, K5⟩
      replace Q := Lib.hid (SeqP.snoc Q.out hn)
      replace T := Lib.hid (T.out.kept K5)
      replace H := Lib.hid (S5.put (b := b) (j := 5) (by have := T.out.hb; have := T.out.hg; omega) (.int .i64 n1))
      clear hn S5 K5
      have u0 := T.out.s.at 0 _ rfl
      have v0 := T.out.s.f 0
      have u1 := T.out.s.at 1 _ rfl
      have v1 := T.out.s.f 1
      have u2 := T.out.s.at 2 _ rfl
      have v2 := T.out.s.f 2
      have u3 := T.out.s.at 3 _ rfl
      have v3 := T.out.s.f 3
      have u4 := T.out.s.at 4 _ rfl
      have v4 := T.out.s.f 4
      have u5 := T.out.s.at 5 _ rfl
      have v5 := T.out.s.f 5
      have u6 := T.out.s.at 6 _ rfl
      have v6 := T.out.s.f 6
      have u7 := T.out.s.at 7 _ rfl
      have v7 := T.out.s.f 7
      replace T := Lib.hid (T.out.sp n1)
      go_upto_region 10 with fail
      generalize w5.setCell ⟨b, 5, none⟩ (.int .i64 n1) = W5 at *
      clear u0 v0 u1 v1 u2 v2 u3 v3 u4 v4 u5 v5 u6 v6 u7 v7
      go_wp2_with fail
      refine (numberS_any g S _ _ _ H.out hS).mono ?_
      rintro e w5 ⟨n2, E_n2, o_n2, rfl, hn, S5, K5⟩
      replace Q := Lib.hid (SeqP.snoc Q.out hn)
      replace T := Lib.hid (T.out.kept K5)
      replace H := Lib.hid (S5.put (b := b) (j := 6) (by have := T.out.hb; have := T.out.hg; omega) (.int .i64 n2))
      clear hn S5 K5
      have u0 := T.out.s.at 0 _ rfl
      have v0 := T.out.s.f 0
      have u1 := T.out.s.at 1 _ rfl
      have v1 := T.out.s.f 1
      have u2 := T.out.s.at 2 _ rfl
      have v2 := T.out.s.f 2
      have u3 := T.out.s.at 3 _ rfl
      have v3 := T.out.s.f 3
      have u4 := T.out.s.at 4 _ rfl
      have v4 := T.out.s.f 4
      have u5 := T.out.s.at 5 _ rfl
      have v5 := T.out.s.f 5
      have u6 := T.out.s.at 6 _ rfl
      have v6 := T.out.s.f 6
      have u7 := T.out.s.at 7 _ rfl
      have v7 := T.out.s.f 7
      replace T := Lib.hid (T.out.sd n2)
      go_upto_region 11 with fail
      generalize w5.setCell ⟨b, 6, none⟩ (.int .i64 n2) = W5 at *
      clear u0 v0 u1 v1 u2 v2 u3 v3 u4 v4 u5 v5 u6 v6 u7 v7
      go_wp2_with fail
      refine (numberS_any g S _ _ _ H.out hS).mono ?_
      rintro e w5 ⟨n3, E_n3, o_n3, rfl, hn, S5, K5⟩
      replace Q := Lib.hid (SeqP.snoc Q.out hn)
      replace T := Lib.hid (T.out.kept K5)
      replace H := Lib.hid (S5.put (b := b) (j := 7) (by have := T.out.hb; have := T.out.hg; omega) (.int .i64 n3))
      clear hn S5 K5
      have u0 := T.out.s.at 0 _ rfl
      have v0 := T.out.s.f 0
      have u1 := T.out.s.at 1 _ rfl
      have v1 := T.out.s.f 1
      have u2 := T.out.s.at 2 _ rfl
      have v2 := T.out.s.f 2
      have u3 := T.out.s.at 3 _ rfl
      have v3 := T.out.s.f 3
      have u4 := T.out.s.at 4 _ rfl
      have v4 := T.out.s.f 4
      have u5 := T.out.s.at 5 _ rfl
      have v5 := T.out.s.f 5
      have u6 := T.out.s.at 6 _ rfl
      have v6 := T.out.s.f 6
      have u7 := T.out.s.at 7 _ rfl
      have v7 := T.out.s.f 7
      replace T := Lib.hid (T.out.sq n3)
      go_upto_region 21 with fail
      generalize w5.setCell ⟨b, 7, none⟩ (.int .i64 n3) = W5 at *
      clear u0 v0 u1 v1 u2 v2 u3 v3 u4 v4 u5 v5 u6 v6 u7 v7
      have u0 := T.out.s.at 0 _ rfl
      have v0 := T.out.s.f 0
      have u1 := T.out.s.at 1 _ rfl
      have v1 := T.out.s.f 1
      have u2 := T.out.s.at 2 _ rfl
      have v2 := T.out.s.f 2
      have u3 := T.out.s.at 3 _ rfl
      have v3 := T.out.s.f 3
      have u4 := T.out.s.at 4 _ rfl
      have v4 := T.out.s.f 4
      have u5 := T.out.s.at 5 _ rfl
      have v5 := T.out.s.f 5
      have u6 := T.out.s.at 6 _ rfl
      have v6 := T.out.s.f 6
      have u7 := T.out.s.at 7 _ rfl
      have v7 := T.out.s.f 7
      have r0 := T.out.r.at 0 _ rfl
      have f0 := T.out.r.f 0
      have r1 := T.out.r.at 1 _ rfl
      have f1 := T.out.r.f 1
      have r2 := T.out.r.at 2 _ rfl
      have f2 := T.out.r.f 2
      have r3 := T.out.r.at 3 _ rfl
      have f3 := T.out.r.f 3
      have r4 := T.out.r.at 4 _ rfl
      have f4 := T.out.r.f 4
      have r5 := T.out.r.at 5 _ rfl
      have f5 := T.out.r.f 5
      have r6 := T.out.r.at 6 _ rfl
      have f6 := T.out.r.f 6
      have r7 := T.out.r.at 7 _ rfl
      have f7 := T.out.r.f 7
      have HE := Lib.hid (UI.fin T.out)
      have HH : Hid (∀ a0 a1 a2 a3 a4 a5 a6 a7, StS g S _ _ ((((((((W5.setCell ⟨w.heap.size, 0, none⟩ a0).setCell ⟨w.heap.size, 1, none⟩ a1).setCell ⟨w.heap.size, 2, none⟩ a2).setCell ⟨w.heap.size, 3, none⟩ a3).setCell ⟨w.heap.size, 4, none⟩ a4).setCell ⟨w.heap.size, 5, none⟩ a5).setCell ⟨w.heap.size, 6, none⟩ a6).setCell ⟨w.heap.size, 7, none⟩ a7)) := fun a0 a1 a2 a3 a4 a5 a6 a7 => by
        have hne : w.heap.size ≠ g := by have := HG.out; omega
        iterate 8 (refine StS.put ?_ hne _)
        exact H.out
      have HP := Lib.hid (NotP.other (x := ⟨nm, (kd : Int), 0, 0, [], n1, n2, n3⟩) HED.out ⟨hka, hkb, hkc⟩ HED.out.1 rfl Q.out.1 Q.out.2.1)
      clear T H
      go_wp2
      refine bodyPost_ret ?_ rfl ⟨⟨nm, (kd : Int), 0, 0, [], n1, n2, n3⟩, _, _, _, rfl, HP.out, HH.out _ _ _ _ _ _ _ _, (HE.out _ _ _ _ _ _ _ _).2, (HE.out _ _ _ _ _ _ _ _).1⟩
      simp [results, Tryz.results67, go_sem, r0, r1, r2, r3, r4, r5, r6, r7]
    · skip
      have e1 := ext1 W1 (.cells #[.string (S.extract p (p + c)), .int .i64 0, .int .i64 0, .int .i64 0, .slice (some ⟨W1.heap.size + 1, 0, none⟩) 0 0, .int .i64 0, .int .i64 0, .int .i64 0] 31)
      have e2 := ext1 (W1.alloc (.cells #[.string (S.extract p (p + c)), .int .i64 0, .int .i64 0, .int .i64 0, .slice (some ⟨W1.heap.size + 1, 0, none⟩) 0 0, .int .i64 0, .int .i64 0, .int .i64 0] 31)) (.cells #[] 2)
      have e3 : Below W1.heap.size W1 (((W1.alloc (.cells #[.string (S.extract p (p + c)), .int .i64 0, .int .i64 0, .int .i64 0, .slice (some ⟨W1.heap.size + 1, 0, none⟩) 0 0, .int .i64 0, .int .i64 0, .int .i64 0] 31)).alloc (.cells #[] 2)).drew) := ext_drew (ext_trans e1 e2)
      have HBG := Lib.hid (B2.next e3)
      have T : Hid (UI g W1.heap.size ⟨S.extract p (p + c), 0, 0, 0, [], 0, 0, 0⟩ (.slice (some ⟨(W1.heap.size + 1), 0, none⟩) 0 0) w (((W1.alloc (.cells #[.string (S.extract p (p + c)), .int .i64 0, .int .i64 0, .int .i64 0, .slice (some ⟨W1.heap.size + 1, 0, none⟩) 0 0, .int .i64 0, .int .i64 0, .int .i64 0] 31)).alloc (.cells #[] 2)).drew)) := by
        refine ⟨K2.trans (Keep.of e3 hlt), R2.next e3, ((BoxV.new W1 #[.string (S.extract p (p + c)), .int .i64 0, .int .i64 0, .int .i64 0, .slice (some ⟨W1.heap.size + 1, 0, none⟩) 0 0, .int .i64 0, .int .i64 0, .int .i64 0] 31).alloc (.cells #[] 2)).drew, World.ownsRow.drew (by
          have h := World.ownsRow_lit (base := w.heap.size + 1) (e := 2) (size := 1) (W1.alloc (.cells #[.string (S.extract p (p + c)), .int .i64 0, .int .i64 0, .int .i64 0, .slice (some ⟨W1.heap.size + 1, 0, none⟩) 0 0, .int .i64 0, .int .i64 0, .int .i64 0] 31)) #[] 0 (by have := R2.lt; simp only [World.size_alloc]; omega) (by unfold maxLen; omega) rfl
          simpa using h), by simp [Value.ownBlock], by have := R2.lt; omega, HG.out⟩
      clear e1 e2 e3 K2 R2 B2 HXA X2 x0 x1 y0 y1 hlt
      generalize (((W1.alloc (.cells #[.string (S.extract p (p + c)), .int .i64 0, .int .i64 0, .int .i64 0, .slice (some ⟨W1.heap.size + 1, 0, none⟩) 0 0, .int .i64 0, .int .i64 0, .int .i64 0] 31)).alloc (.cells #[] 2)).drew) = W2 at *
      generalize W1.heap.size + 1 = a at *
      generalize W1.heap.size = b at *
      have x1 : W2.cell? ⟨g, 1, none⟩ = some (.int .i64 p) := HBG.out.at 1 _ rfl
      have y1 := HBG.out.f 1
      have w1'' : IntKind.i64.wrap ((p : Int) + (c : Int)) = (p : Int) + (c : Int) := IntWalk.i64_in _ (by omega)
      have H : Hid (StS g S (D1.drop c) true (W2.setCell ⟨g, 1, none⟩ (.int .i64 ((p : Int) + (c : Int))))) := ⟨p + c, hle, by rw [← HD.out, List.drop_drop], by simpa using HBG.out.set 1 (.int .i64 ((p : Int) + (c : Int))) (by simp)⟩
      replace T := Lib.hid (T.out.kept (W' := W2.setCell ⟨g, 1, none⟩ (.int .i64 ((p : Int) + (c : Int)))) ((Keep.refl g W2).set 1 _))
      generalize S.extract p (p + c) = nm at *
      clear HBG HD l1 i1 i2 i3
      go_upto_region 7 with fail
      generalize W2.setCell ⟨g, 1, none⟩ (.int .i64 ((p : Int) + (c : Int))) = W4 at *
      clear x1 y1 w1' w1''
      go_wp2_with fail
      refine (byte_any g S _ _ _ H.out hS).mono ?_
      rintro e w3 ⟨kd, D3, o3, rfl, hb, S1, K1⟩
      have HED := Lib.hid (HedP.of HB1.out HN.out hb)
      replace T := Lib.hid (T.out.kept K1)
      have hk5 : kd ≤ 255 := hb.1
      have HH3 : Hid (∀ k : Int, StS g S D3 o3 (w3.setCell ⟨b, 1, none⟩ (.int .i64 k))) := fun k => S1.put (by have := T.out.hb; have := T.out.hg; omega) _
      have HT3 : Hid (∀ k : Int, UI g b ⟨nm, k, 0, 0, [], 0, 0, 0⟩ (.slice (some ⟨a, 0, none⟩) 0 0) w (w3.setCell ⟨b, 1, none⟩ (.int .i64 k))) := fun k => T.out.kind k
      have hcw : IntKind.i64.wrap (kd : Int) = (kd : Int) := IntWalk.i64_in _ (by omega)
      have hD3 : D3.length ≤ 1048576 := by
        have h1 := hb.len.1
        rw [List.length_drop] at h1
        omega
      clear S1 K1 hb HB1 HN H
      have Q := Lib.hid (SeqP.nil D3 o3)
      by_cases hka : kd = 1
      · skip
        subst hka
        have u0 := T.out.s.at 0 _ rfl
        have v0 := T.out.s.f 0
        have u1 := T.out.s.at 1 _ rfl
        have v1 := T.out.s.f 1
        have u2 := T.out.s.at 2 _ rfl
        have v2 := T.out.s.f 2
        have u3 := T.out.s.at 3 _ rfl
        have v3 := T.out.s.f 3
        have u4 := T.out.s.at 4 _ rfl
        have v4 := T.out.s.f 4
        have u5 := T.out.s.at 5 _ rfl
        have v5 := T.out.s.f 5
        have u6 := T.out.s.at 6 _ rfl
        have v6 := T.out.s.f 6
        have u7 := T.out.s.at 7 _ rfl
        have v7 := T.out.s.f 7
        have H := Lib.hid (HH3.out 1)
        replace T := Lib.hid (HT3.out 1)
        clear HH3 HT3 hk5
        go_upto_region 8 with fail
        generalize w3.setCell ⟨b, 1, none⟩ (.int .i64 1) = W3 at *
        clear u0 v0 u1 v1 u2 v2 u3 v3 u4 v4 u5 v5 u6 v6 u7 v7
        have u0 := T.out.s.at 0 _ rfl
        have v0 := T.out.s.f 0
        have u1 := T.out.s.at 1 _ rfl
        have v1 := T.out.s.f 1
        have u2 := T.out.s.at 2 _ rfl
        have v2 := T.out.s.f 2
        have u3 := T.out.s.at 3 _ rfl
        have v3 := T.out.s.f 3
        have u4 := T.out.s.at 4 _ rfl
        have v4 := T.out.s.f 4
        have u5 := T.out.s.at 5 _ rfl
        have v5 := T.out.s.f 5
        have u6 := T.out.s.at 6 _ rfl
        have v6 := T.out.s.f 6
        have u7 := T.out.s.at 7 _ rfl
        have v7 := T.out.s.f 7
        go_wp2_with fail
        refine (numberS_any g S _ _ _ H.out hS).mono ?_
        rintro e w5 ⟨n1, E_n1, o_n1, rfl, hn, S5, K5⟩
        replace Q := Lib.hid (SeqP.snoc Q.out hn)
        replace T := Lib.hid (T.out.kept K5)
        replace H := Lib.hid (S5.put (b := b) (j := 2) (by have := T.out.hb; have := T.out.hg; omega) (.int .i64 n1))
        clear hn S5 K5
        have u0 := T.out.s.at 0 _ rfl
        have v0 := T.out.s.f 0
        have u1 := T.out.s.at 1 _ rfl
        have v1 := T.out.s.f 1
        have u2 := T.out.s.at 2 _ rfl
        have v2 := T.out.s.f 2
        have u3 := T.out.s.at 3 _ rfl
        have v3 := T.out.s.f 3
        have u4 := T.out.s.at 4 _ rfl
        have v4 := T.out.s.f 4
        have u5 := T.out.s.at 5 _ rfl
        have v5 := T.out.s.f 5
        have u6 := T.out.s.at 6 _ rfl
        have v6 := T.out.s.f 6
        have u7 := T.out.s.at 7 _ rfl
        have v7 := T.out.s.f 7
        replace T := Lib.hid (T.out.num n1)
        go_upto_region 14 with fail
        generalize w5.setCell ⟨b, 2, none⟩ (.int .i64 n1) = W5 at *
        clear u0 v0 u1 v1 u2 v2 u3 v3 u4 v4 u5 v5 u6 v6 u7 v7
        go_wp2_with fail
        refine (numberS_any g S _ _ _ H.out hS).mono ?_
        rintro e w5 ⟨n2, E_n2, o_n2, rfl, hn, S5, K5⟩
        replace Q := Lib.hid (SeqP.snoc Q.out hn)
        replace T := Lib.hid (T.out.kept K5)
        replace H := Lib.hid (S5.put (b := b) (j := 3) (by have := T.out.hb; have := T.out.hg; omega) (.int .i64 n2))
        clear hn S5 K5
        have u0 := T.out.s.at 0 _ rfl
        have v0 := T.out.s.f 0
        have u1 := T.out.s.at 1 _ rfl
        have v1 := T.out.s.f 1
        have u2 := T.out.s.at 2 _ rfl
        have v2 := T.out.s.f 2
        have u3 := T.out.s.at 3 _ rfl
        have v3 := T.out.s.f 3
        have u4 := T.out.s.at 4 _ rfl
        have v4 := T.out.s.f 4
        have u5 := T.out.s.at 5 _ rfl
        have v5 := T.out.s.f 5
        have u6 := T.out.s.at 6 _ rfl
        have v6 := T.out.s.f 6
        have u7 := T.out.s.at 7 _ rfl
        have v7 := T.out.s.f 7
        replace T := Lib.hid (T.out.den n2)
        go_upto_region 21 with fail
        generalize w5.setCell ⟨b, 3, none⟩ (.int .i64 n2) = W5 at *
        clear u0 v0 u1 v1 u2 v2 u3 v3 u4 v4 u5 v5 u6 v6 u7 v7
        have u0 := T.out.s.at 0 _ rfl
        have v0 := T.out.s.f 0
        have u1 := T.out.s.at 1 _ rfl
        have v1 := T.out.s.f 1
        have u2 := T.out.s.at 2 _ rfl
        have v2 := T.out.s.f 2
        have u3 := T.out.s.at 3 _ rfl
        have v3 := T.out.s.f 3
        have u4 := T.out.s.at 4 _ rfl
        have v4 := T.out.s.f 4
        have u5 := T.out.s.at 5 _ rfl
        have v5 := T.out.s.f 5
        have u6 := T.out.s.at 6 _ rfl
        have v6 := T.out.s.f 6
        have u7 := T.out.s.at 7 _ rfl
        have v7 := T.out.s.f 7
        have r0 := T.out.r.at 0 _ rfl
        have f0 := T.out.r.f 0
        have r1 := T.out.r.at 1 _ rfl
        have f1 := T.out.r.f 1
        have r2 := T.out.r.at 2 _ rfl
        have f2 := T.out.r.f 2
        have r3 := T.out.r.at 3 _ rfl
        have f3 := T.out.r.f 3
        have r4 := T.out.r.at 4 _ rfl
        have f4 := T.out.r.f 4
        have r5 := T.out.r.at 5 _ rfl
        have f5 := T.out.r.f 5
        have r6 := T.out.r.at 6 _ rfl
        have f6 := T.out.r.f 6
        have r7 := T.out.r.at 7 _ rfl
        have f7 := T.out.r.f 7
        have HE := Lib.hid (UI.fin T.out)
        have HH : Hid (∀ a0 a1 a2 a3 a4 a5 a6 a7, StS g S _ _ ((((((((W5.setCell ⟨w.heap.size, 0, none⟩ a0).setCell ⟨w.heap.size, 1, none⟩ a1).setCell ⟨w.heap.size, 2, none⟩ a2).setCell ⟨w.heap.size, 3, none⟩ a3).setCell ⟨w.heap.size, 4, none⟩ a4).setCell ⟨w.heap.size, 5, none⟩ a5).setCell ⟨w.heap.size, 6, none⟩ a6).setCell ⟨w.heap.size, 7, none⟩ a7)) := fun a0 a1 a2 a3 a4 a5 a6 a7 => by
          have hne : w.heap.size ≠ g := by have := HG.out; omega
          iterate 8 (refine StS.put ?_ hne _)
          exact H.out
        have HP := Lib.hid (NotP.one HED.out Q.out)
        clear T H
        go_wp2
        refine bodyPost_ret ?_ rfl ⟨⟨nm, 1, n1, n2, [], 0, 0, 0⟩, _, _, _, rfl, HP.out, HH.out _ _ _ _ _ _ _ _, (HE.out _ _ _ _ _ _ _ _).2, (HE.out _ _ _ _ _ _ _ _).1⟩
        simp [results, Tryz.results67, go_sem, r0, r1, r2, r3, r4, r5, r6, r7]
      by_cases hkc : kd = 3
      · skip
        subst hkc
        have u0 := T.out.s.at 0 _ rfl
        have v0 := T.out.s.f 0
        have u1 := T.out.s.at 1 _ rfl
        have v1 := T.out.s.f 1
        have u2 := T.out.s.at 2 _ rfl
        have v2 := T.out.s.f 2
        have u3 := T.out.s.at 3 _ rfl
        have v3 := T.out.s.f 3
        have u4 := T.out.s.at 4 _ rfl
        have v4 := T.out.s.f 4
        have u5 := T.out.s.at 5 _ rfl
        have v5 := T.out.s.f 5
        have u6 := T.out.s.at 6 _ rfl
        have v6 := T.out.s.f 6
        have u7 := T.out.s.at 7 _ rfl
        have v7 := T.out.s.f 7
        have H := Lib.hid (HH3.out 3)
        replace T := Lib.hid (HT3.out 3)
        clear HH3 HT3 hk5
        go_upto_region 8 with fail
        generalize w3.setCell ⟨b, 1, none⟩ (.int .i64 3) = W3 at *
        clear u0 v0 u1 v1 u2 v2 u3 v3 u4 v4 u5 v5 u6 v6 u7 v7
        have u0 := T.out.s.at 0 _ rfl
        have v0 := T.out.s.f 0
        have u1 := T.out.s.at 1 _ rfl
        have v1 := T.out.s.f 1
        have u2 := T.out.s.at 2 _ rfl
        have v2 := T.out.s.f 2
        have u3 := T.out.s.at 3 _ rfl
        have v3 := T.out.s.f 3
        have u4 := T.out.s.at 4 _ rfl
        have v4 := T.out.s.f 4
        have u5 := T.out.s.at 5 _ rfl
        have v5 := T.out.s.f 5
        have u6 := T.out.s.at 6 _ rfl
        have v6 := T.out.s.f 6
        have u7 := T.out.s.at 7 _ rfl
        have v7 := T.out.s.f 7
        go_wp2_with fail
        refine (numberS_any g S _ _ _ H.out hS).mono ?_
        rintro e w5 ⟨n1, E_n1, o_n1, rfl, hn, S5, K5⟩
        replace Q := Lib.hid (SeqP.snoc Q.out hn)
        replace T := Lib.hid (T.out.kept K5)
        replace H := Lib.hid (S5.put (b := b) (j := 5) (by have := T.out.hb; have := T.out.hg; omega) (.int .i64 n1))
        clear hn S5 K5
        have u0 := T.out.s.at 0 _ rfl
        have v0 := T.out.s.f 0
        have u1 := T.out.s.at 1 _ rfl
        have v1 := T.out.s.f 1
        have u2 := T.out.s.at 2 _ rfl
        have v2 := T.out.s.f 2
        have u3 := T.out.s.at 3 _ rfl
        have v3 := T.out.s.f 3
        have u4 := T.out.s.at 4 _ rfl
        have v4 := T.out.s.f 4
        have u5 := T.out.s.at 5 _ rfl
        have v5 := T.out.s.f 5
        have u6 := T.out.s.at 6 _ rfl
        have v6 := T.out.s.f 6
        have u7 := T.out.s.at 7 _ rfl
        have v7 := T.out.s.f 7
        replace T := Lib.hid (T.out.sp n1)
        go_upto_region 10 with fail
        generalize w5.setCell ⟨b, 5, none⟩ (.int .i64 n1) = W5 at *
        clear u0 v0 u1 v1 u2 v2 u3 v3 u4 v4 u5 v5 u6 v6 u7 v7
        go_wp2_with fail
        refine (numberS_any g S _ _ _ H.out hS).mono ?_
        rintro e w5 ⟨n2, E_n2, o_n2, rfl, hn, S5, K5⟩
        replace Q := Lib.hid (SeqP.snoc Q.out hn)
        replace T := Lib.hid (T.out.kept K5)
        replace H := Lib.hid (S5.put (b := b) (j := 6) (by have := T.out.hb; have := T.out.hg; omega) (.int .i64 n2))
        clear hn S5 K5
        have u0 := T.out.s.at 0 _ rfl
        have v0 := T.out.s.f 0
        have u1 := T.out.s.at 1 _ rfl
        have v1 := T.out.s.f 1
        have u2 := T.out.s.at 2 _ rfl
        have v2 := T.out.s.f 2
        have u3 := T.out.s.at 3 _ rfl
        have v3 := T.out.s.f 3
        have u4 := T.out.s.at 4 _ rfl
        have v4 := T.out.s.f 4
        have u5 := T.out.s.at 5 _ rfl
        have v5 := T.out.s.f 5
        have u6 := T.out.s.at 6 _ rfl
        have v6 := T.out.s.f 6
        have u7 := T.out.s.at 7 _ rfl
        have v7 := T.out.s.f 7
        replace T := Lib.hid (T.out.sd n2)
        go_upto_region 11 with fail
        generalize w5.setCell ⟨b, 6, none⟩ (.int .i64 n2) = W5 at *
        clear u0 v0 u1 v1 u2 v2 u3 v3 u4 v4 u5 v5 u6 v6 u7 v7
        go_wp2_with fail
        refine (numberS_any g S _ _ _ H.out hS).mono ?_
        rintro e w5 ⟨n3, E_n3, o_n3, rfl, hn, S5, K5⟩
        replace Q := Lib.hid (SeqP.snoc Q.out hn)
        replace T := Lib.hid (T.out.kept K5)
        replace H := Lib.hid (S5.put (b := b) (j := 7) (by have := T.out.hb; have := T.out.hg; omega) (.int .i64 n3))
        clear hn S5 K5
        have u0 := T.out.s.at 0 _ rfl
        have v0 := T.out.s.f 0
        have u1 := T.out.s.at 1 _ rfl
        have v1 := T.out.s.f 1
        have u2 := T.out.s.at 2 _ rfl
        have v2 := T.out.s.f 2
        have u3 := T.out.s.at 3 _ rfl
        have v3 := T.out.s.f 3
        have u4 := T.out.s.at 4 _ rfl
        have v4 := T.out.s.f 4
        have u5 := T.out.s.at 5 _ rfl
        have v5 := T.out.s.f 5
        have u6 := T.out.s.at 6 _ rfl
        have v6 := T.out.s.f 6
        have u7 := T.out.s.at 7 _ rfl
        have v7 := T.out.s.f 7
        replace T := Lib.hid (T.out.sq n3)
        go_upto_region 21 with fail
        generalize w5.setCell ⟨b, 7, none⟩ (.int .i64 n3) = W5 at *
        clear u0 v0 u1 v1 u2 v2 u3 v3 u4 v4 u5 v5 u6 v6 u7 v7
        have u0 := T.out.s.at 0 _ rfl
        have v0 := T.out.s.f 0
        have u1 := T.out.s.at 1 _ rfl
        have v1 := T.out.s.f 1
        have u2 := T.out.s.at 2 _ rfl
        have v2 := T.out.s.f 2
        have u3 := T.out.s.at 3 _ rfl
        have v3 := T.out.s.f 3
        have u4 := T.out.s.at 4 _ rfl
        have v4 := T.out.s.f 4
        have u5 := T.out.s.at 5 _ rfl
        have v5 := T.out.s.f 5
        have u6 := T.out.s.at 6 _ rfl
        have v6 := T.out.s.f 6
        have u7 := T.out.s.at 7 _ rfl
        have v7 := T.out.s.f 7
        have r0 := T.out.r.at 0 _ rfl
        have f0 := T.out.r.f 0
        have r1 := T.out.r.at 1 _ rfl
        have f1 := T.out.r.f 1
        have r2 := T.out.r.at 2 _ rfl
        have f2 := T.out.r.f 2
        have r3 := T.out.r.at 3 _ rfl
        have f3 := T.out.r.f 3
        have r4 := T.out.r.at 4 _ rfl
        have f4 := T.out.r.f 4
        have r5 := T.out.r.at 5 _ rfl
        have f5 := T.out.r.f 5
        have r6 := T.out.r.at 6 _ rfl
        have f6 := T.out.r.f 6
        have r7 := T.out.r.at 7 _ rfl
        have f7 := T.out.r.f 7
        have HE := Lib.hid (UI.fin T.out)
        have HH : Hid (∀ a0 a1 a2 a3 a4 a5 a6 a7, StS g S _ _ ((((((((W5.setCell ⟨w.heap.size, 0, none⟩ a0).setCell ⟨w.heap.size, 1, none⟩ a1).setCell ⟨w.heap.size, 2, none⟩ a2).setCell ⟨w.heap.size, 3, none⟩ a3).setCell ⟨w.heap.size, 4, none⟩ a4).setCell ⟨w.heap.size, 5, none⟩ a5).setCell ⟨w.heap.size, 6, none⟩ a6).setCell ⟨w.heap.size, 7, none⟩ a7)) := fun a0 a1 a2 a3 a4 a5 a6 a7 => by
          have hne : w.heap.size ≠ g := by have := HG.out; omega
          iterate 8 (refine StS.put ?_ hne _)
          exact H.out
        have HP := Lib.hid (NotP.three HED.out Q.out)
        clear T H
        go_wp2
        refine bodyPost_ret ?_ rfl ⟨⟨nm, 3, 0, 0, [], n1, n2, n3⟩, _, _, _, rfl, HP.out, HH.out _ _ _ _ _ _ _ _, (HE.out _ _ _ _ _ _ _ _).2, (HE.out _ _ _ _ _ _ _ _).1⟩
        simp [results, Tryz.results67, go_sem, r0, r1, r2, r3, r4, r5, r6, r7]
      by_cases hkb : kd = 2
      · skip
        subst hkb
        have u0 := T.out.s.at 0 _ rfl
        have v0 := T.out.s.f 0
        have u1 := T.out.s.at 1 _ rfl
        have v1 := T.out.s.f 1
        have u2 := T.out.s.at 2 _ rfl
        have v2 := T.out.s.f 2
        have u3 := T.out.s.at 3 _ rfl
        have v3 := T.out.s.f 3
        have u4 := T.out.s.at 4 _ rfl
        have v4 := T.out.s.f 4
        have u5 := T.out.s.at 5 _ rfl
        have v5 := T.out.s.f 5
        have u6 := T.out.s.at 6 _ rfl
        have v6 := T.out.s.f 6
        have u7 := T.out.s.at 7 _ rfl
        have v7 := T.out.s.f 7
        have H := Lib.hid (HH3.out 2)
        replace T := Lib.hid (HT3.out 2)
        clear HH3 HT3 hk5
        go_upto_region 8 with fail
        generalize w3.setCell ⟨b, 1, none⟩ (.int .i64 2) = W3 at *
        clear u0 v0 u1 v1 u2 v2 u3 v3 u4 v4 u5 v5 u6 v6 u7 v7
        have u0 := T.out.s.at 0 _ rfl
        have v0 := T.out.s.f 0
        have u1 := T.out.s.at 1 _ rfl
        have v1 := T.out.s.f 1
        have u2 := T.out.s.at 2 _ rfl
        have v2 := T.out.s.f 2
        have u3 := T.out.s.at 3 _ rfl
        have v3 := T.out.s.f 3
        have u4 := T.out.s.at 4 _ rfl
        have v4 := T.out.s.f 4
        have u5 := T.out.s.at 5 _ rfl
        have v5 := T.out.s.f 5
        have u6 := T.out.s.at 6 _ rfl
        have v6 := T.out.s.f 6
        have u7 := T.out.s.at 7 _ rfl
        have v7 := T.out.s.f 7
        clear Q
        go_wp2_with fail
        refine (numberS_any g S _ _ _ H.out hS).mono ?_
        rintro e w5 ⟨n, E1, q1, rfl, hn, S5, K5⟩
        replace T := Lib.hid (T.out.kept K5)
        have HNU := Lib.hid hn
        have n1 := hn.1
        have n2 := hn.2.1
        have HE1 : E1.length ≤ 1048576 := by
          have h1 := HED.out.2.2.2.1
          have h2 := hn.2.2.2.2.1
          omega
        have H5 := Lib.hid S5
        have T5 := T
        clear hn S5 K5 u0 v0 u1 v1 u2 v2 u3 v3 u4 v4 u5 v5 u6 v6 u7 v7 H T
        go_wp2_with fail
        go_loopw [6] (fun t wr => ∃ (ts : List Int) (v : Value) (E : List Int) (o : Bool), t = .int .i64 (ts.length : Int) ∧ ts.length + E.length ≤ E1.length + 1 ∧ (o = true → ts.length + E.length ≤ E1.length) ∧ Hid ((ts.length : Int) ≤ n ∨ ts.length = 0) ∧ Hid (SeqP E1 q1 ts E o) ∧ Hid (StS g S E o wr) ∧ Hid (UI g b ⟨nm, 2, 0, 0, ts, 0, 0, 0⟩ v w wr)) (fun t _ => (n - intOf t).toNat)
        case atStart => exact ⟨[], _, E1, q1, by simp, by simp, by simp, .inr rfl, SeqP.nil _ _, H5.out, T5.out⟩
        case round =>
          obtain ⟨ts, v, E, o, rfl, hl1, hl2, HCN, Q, H, T⟩ := hrel
          clear H5 T5
          obtain ⟨A, cp, rfl⟩ := own_slice T.out.row
          have HL : Hid (ts.length + E.length ≤ E1.length + 1) := hl1
          have HB := Lib.hid H.out
          obtain ⟨p, hp, hR, hB⟩ := HB.out
          have x2 := hB.at 2 _ rfl
          clear hR hp
          by_cases hn0 : (ts.length : Int) < n
          · cases o
            · have HX : Hid (n ≤ (ts.length : Int) ∨ false = false) := .inr rfl
              clear hB hl1 hl2
              have u0 := T.out.s.at 0 _ rfl
              have v0 := T.out.s.f 0
              have u1 := T.out.s.at 1 _ rfl
              have v1 := T.out.s.f 1
              have u2 := T.out.s.at 2 _ rfl
              have v2 := T.out.s.f 2
              have u3 := T.out.s.at 3 _ rfl
              have v3 := T.out.s.f 3
              have u4 := T.out.s.at 4 _ rfl
              have v4 := T.out.s.f 4
              have u5 := T.out.s.at 5 _ rfl
              have v5 := T.out.s.f 5
              have u6 := T.out.s.at 6 _ rfl
              have v6 := T.out.s.f 6
              have u7 := T.out.s.at 7 _ rfl
              have v7 := T.out.s.f 7
              have r0 := T.out.r.at 0 _ rfl
              have f0 := T.out.r.f 0
              have r1 := T.out.r.at 1 _ rfl
              have f1 := T.out.r.f 1
              have r2 := T.out.r.at 2 _ rfl
              have f2 := T.out.r.f 2
              have r3 := T.out.r.at 3 _ rfl
              have f3 := T.out.r.f 3
              have r4 := T.out.r.at 4 _ rfl
              have f4 := T.out.r.f 4
              have r5 := T.out.r.at 5 _ rfl
              have f5 := T.out.r.f 5
              have r6 := T.out.r.at 6 _ rfl
              have f6 := T.out.r.f 6
              have r7 := T.out.r.at 7 _ rfl
              have f7 := T.out.r.f 7
              have HE := Lib.hid (UI.fin T.out)
              have HH : Hid (∀ a0 a1 a2 a3 a4 a5 a6 a7, StS g S _ _ ((((((((wr.setCell ⟨w.heap.size, 0, none⟩ a0).setCell ⟨w.heap.size, 1, none⟩ a1).setCell ⟨w.heap.size, 2, none⟩ a2).setCell ⟨w.heap.size, 3, none⟩ a3).setCell ⟨w.heap.size, 4, none⟩ a4).setCell ⟨w.heap.size, 5, none⟩ a5).setCell ⟨w.heap.size, 6, none⟩ a6).setCell ⟨w.heap.size, 7, none⟩ a7)) := fun a0 a1 a2 a3 a4 a5 a6 a7 => by
                have hne : w.heap.size ≠ g := by have := HG.out; omega
                iterate 8 (refine StS.put ?_ hne _)
                exact H.out
              have HP := Lib.hid (NotP.two HED.out HNU.out Q.out HL.out HCN.out HX.out)
              clear T H
              go_wp2
              refine bodyPost_ret ?_ rfl ⟨⟨nm, 2, 0, 0, ts, 0, 0, 0⟩, _, _, _, rfl, HP.out, HH.out _ _ _ _ _ _ _ _, (HE.out _ _ _ _ _ _ _ _).2, (HE.out _ _ _ _ _ _ _ _).1⟩
              simp [results, Tryz.results67, go_sem, r0, r1, r2, r3, r4, r5, r6, r7]
            · have hB1 := hl2 rfl
              clear hB hl1 hl2 HB
              have hbl := T.out.s.lt
              have hgl := H.out.lt
              have hbg : b ≠ g := by have := T.out.hb; have := T.out.hg; omega
              have hrg : (Value.slice A ts.length cp).ownBlock ≠ some g := fun e => by have := (T.out.row.lt _ e).1; have := T.out.hg; omega
              have T0 := T
              have H0 := H
              have u4 := T.out.s.at 4 _ rfl
              have v4 := T.out.s.f 4
              have hw1 : IntKind.i64.wrap ((ts.length : Int) + 1) = (ts.length : Int) + 1 := IntWalk.i64_in _ (by omega)
              go_wp2_with fail
              first | go_region_law (first
                | (go_simp; go_at_call 108; ((with_reducible refine (numberS_any g S E true _ (H0.out.next (ext_drew (Below.refl _ _))) hS).mono ?_); rintro e w3 ⟨y, E2, o2, rfl, hy, S3, K3'⟩; have K3 : Keep g wr w3 := (Keep.refl g wr).drew.trans K3'; have T3 := Lib.hid (T0.out.kept K3); have HY := Lib.hid hy; have H3 := Lib.hid S3; have hb3 : w.heap.size + 1 ≤ w3.heap.size + 1 := Nat.succ_le_succ T3.out.keep.2.1; have hb4 : b < w3.heap.size := T3.out.s.lt; have m4 := T3.out.s.at 4 _ rfl; have n4 := T3.out.s.f 4; have hrow3 : World.ownsRow (w3.alloc (.cells #[.int .i64 y] 2)) (w.heap.size + 1) 2 1 (.slice A ts.length cp) ts.length (ts.map (Value.int .i64)) := (T3.out.next (ext1 w3 (.cells #[.int .i64 y] 2))).row))
                | (refine step_append_lies _ (by rfl) _ _ _ (by rfl) (w.heap.size + 1) 2 ti (.int .i64 0) 1 8 Tryz.underlying27 HI.out hz0 hz1 hz2 rfl (by decide) _ _ _ (by rfl) hrow3 ⟨w3.heap.size, 0, none⟩ 1 1 [.int .i64 y] (by rfl) (by rfl) (news_rowN _ _ _ rfl) (by simp [Value.oneCell']) (by omega) (by unfold maxLen; omega) (by omega) (by simp only [World.size_alloc]; exact hb3) _ rfl ?_; intro g6 cap6 w6 hown6 hgrow hat hlt; have B6 := (T3.out.next (ext1 w3 (.cells #[.int .i64 y] 2))).s.grown hgrow T3.out.far; have z4 := B6.at 4 _ rfl; have G4 := B6.f 4)
                | fail) | fail
              all_goals
                have hf6 : (Value.slice (some ⟨g6, 0, none⟩) (ts.length + 1) cap6).ownBlock ≠ some b := by
                  intro e
                  have e2 : g6 = b := by injection e
                  rcases hat with h | h
                  · exact T3.out.far (by rw [h, e2])
                  · (try simp at h); omega
                have T := Lib.hid (UI.push (y := y) (T3.out.next (ext1 w3 (.cells #[.int .i64 y] 2))) hown6 hgrow hf6)
                have H : Hid (StS g S E2 o2 (w6.setCell ⟨b, 4, none⟩ (.slice (some ⟨g6, 0, none⟩) (ts.length + 1) cap6))) := ((H3.out.next (ext1 w3 (.cells #[.int .i64 y] 2))).grown hgrow hrg).put hbg _
                have HTL : Hid ((ts ++ [y]).length = ts.length + 1) := by unfold Hid; rw [List.length_append]; rfl
                have hE2 : E2.length ≤ E.length := HY.out.2.2.2.2.1
                have hE3 : o2 = true → E2.length < E.length := fun h => by
                  rcases HY.out.2.2.2.1 with h2 | h2
                  · rw [h] at h2; cases h2
                  · exact h2
                have Q2 := Lib.hid (SeqP.snoc Q.out HY.out)
                clear hf6 hown6 hgrow hat hlt B6 z4 G4 m4 n4 T3 K3 H3 T0 H0 hb3 hrg hrow3
                generalize w6.setCell ⟨b, 4, none⟩ (.slice (some ⟨g6, 0, none⟩) (ts.length + 1) cap6) = W5 at *
                go_wp2
                go_roundw
                case rel => exact ⟨ts ++ [y], _, E2, o2, by rw [HTL.out]; congr 1, by rw [HTL.out]; omega, fun h => by rw [HTL.out]; have := hE3 h; omega, .inl (by rw [HTL.out]; omega), Q2.out, H.out, T.out⟩
                case measure => simp [intOf]; omega
          · have HX : Hid (n ≤ (ts.length : Int) ∨ o = false) := .inl (by omega)
            clear hB hl1 hl2
            have u0 := T.out.s.at 0 _ rfl
            have v0 := T.out.s.f 0
            have u1 := T.out.s.at 1 _ rfl
            have v1 := T.out.s.f 1
            have u2 := T.out.s.at 2 _ rfl
            have v2 := T.out.s.f 2
            have u3 := T.out.s.at 3 _ rfl
            have v3 := T.out.s.f 3
            have u4 := T.out.s.at 4 _ rfl
            have v4 := T.out.s.f 4
            have u5 := T.out.s.at 5 _ rfl
            have v5 := T.out.s.f 5
            have u6 := T.out.s.at 6 _ rfl
            have v6 := T.out.s.f 6
            have u7 := T.out.s.at 7 _ rfl
            have v7 := T.out.s.f 7
            have r0 := T.out.r.at 0 _ rfl
            have f0 := T.out.r.f 0
            have r1 := T.out.r.at 1 _ rfl
            have f1 := T.out.r.f 1
            have r2 := T.out.r.at 2 _ rfl
            have f2 := T.out.r.f 2
            have r3 := T.out.r.at 3 _ rfl
            have f3 := T.out.r.f 3
            have r4 := T.out.r.at 4 _ rfl
            have f4 := T.out.r.f 4
            have r5 := T.out.r.at 5 _ rfl
            have f5 := T.out.r.f 5
            have r6 := T.out.r.at 6 _ rfl
            have f6 := T.out.r.f 6
            have r7 := T.out.r.at 7 _ rfl
            have f7 := T.out.r.f 7
            have HE := Lib.hid (UI.fin T.out)
            have HH : Hid (∀ a0 a1 a2 a3 a4 a5 a6 a7, StS g S _ _ ((((((((wr.setCell ⟨w.heap.size, 0, none⟩ a0).setCell ⟨w.heap.size, 1, none⟩ a1).setCell ⟨w.heap.size, 2, none⟩ a2).setCell ⟨w.heap.size, 3, none⟩ a3).setCell ⟨w.heap.size, 4, none⟩ a4).setCell ⟨w.heap.size, 5, none⟩ a5).setCell ⟨w.heap.size, 6, none⟩ a6).setCell ⟨w.heap.size, 7, none⟩ a7)) := fun a0 a1 a2 a3 a4 a5 a6 a7 => by
              have hne : w.heap.size ≠ g := by have := HG.out; omega
              iterate 8 (refine StS.put ?_ hne _)
              exact H.out
            have HP := Lib.hid (NotP.two HED.out HNU.out Q.out HL.out HCN.out HX.out)
            clear T H
            go_wp2
            refine bodyPost_ret ?_ rfl ⟨⟨nm, 2, 0, 0, ts, 0, 0, 0⟩, _, _, _, rfl, HP.out, HH.out _ _ _ _ _ _ _ _, (HE.out _ _ _ _ _ _ _ _).2, (HE.out _ _ _ _ _ _ _ _).1⟩
            simp [results, Tryz.results67, go_sem, r0, r1, r2, r3, r4, r5, r6, r7]
      have hk1 : ((kd : Int) == 1) = false := by simp; omega
      have hk2 : ((kd : Int) == 2) = false := by simp; omega
      have u0 := T.out.s.at 0 _ rfl
      have v0 := T.out.s.f 0
      have u1 := T.out.s.at 1 _ rfl
      have v1 := T.out.s.f 1
      have u2 := T.out.s.at 2 _ rfl
      have v2 := T.out.s.f 2
      have u3 := T.out.s.at 3 _ rfl
      have v3 := T.out.s.f 3
      have u4 := T.out.s.at 4 _ rfl
      have v4 := T.out.s.f 4
      have u5 := T.out.s.at 5 _ rfl
      have v5 := T.out.s.f 5
      have u6 := T.out.s.at 6 _ rfl
      have v6 := T.out.s.f 6
      have u7 := T.out.s.at 7 _ rfl
      have v7 := T.out.s.f 7
      have H := Lib.hid (HH3.out (kd : Int))
      replace T := Lib.hid (HT3.out (kd : Int))
      clear HH3 HT3 hk5
      go_upto_region 8 with fail
      generalize w3.setCell ⟨b, 1, none⟩ (.int .i64 (kd : Int)) = W3 at *
      clear u0 v0 u1 v1 u2 v2 u3 v3 u4 v4 u5 v5 u6 v6 u7 v7
      have u0 := T.out.s.at 0 _ rfl
      have v0 := T.out.s.f 0
      have u1 := T.out.s.at 1 _ rfl
      have v1 := T.out.s.f 1
      have u2 := T.out.s.at 2 _ rfl
      have v2 := T.out.s.f 2
      have u3 := T.out.s.at 3 _ rfl
      have v3 := T.out.s.f 3
      have u4 := T.out.s.at 4 _ rfl
      have v4 := T.out.s.f 4
      have u5 := T.out.s.at 5 _ rfl
      have v5 := T.out.s.f 5
      have u6 := T.out.s.at 6 _ rfl
      have v6 := T.out.s.f 6
      have u7 := T.out.s.at 7 _ rfl
      have v7 := T.out.s.f 7
      go_wp2_with fail
      refine (numberS_any g S _ _ _ H.out hS).mono ?_
      rintro e w5 ⟨n1, E_n1, o_n1, rfl, hn, S5, K5⟩
      replace Q := Lib.hid (SeqP.snoc Q.out hn)
      replace T := Lib.hid (T.out.kept K5)
      replace H := Lib.hid (S5.put (b := b) (j := 5) (by have := T.out.hb; have := T.out.hg; omega) (.int .i64 n1))
      clear hn S5 K5
      have u0 := T.out.s.at 0 _ rfl
      have v0 := T.out.s.f 0
      have u1 := T.out.s.at 1 _ rfl
      have v1 := T.out.s.f 1
      have u2 := T.out.s.at 2 _ rfl
      have v2 := T.out.s.f 2
      have u3 := T.out.s.at 3 _ rfl
      have v3 := T.out.s.f 3
      have u4 := T.out.s.at 4 _ rfl
      have v4 := T.out.s.f 4
      have u5 := T.out.s.at 5 _ rfl
      have v5 := T.out.s.f 5
      have u6 := T.out.s.at 6 _ rfl
      have v6 := T.out.s.f 6
      have u7 := T.out.s.at 7 _ rfl
      have v7 := T.out.s.f 7
      replace T := Lib.hid (T.out.sp n1)
      go_upto_region 10 with fail
      generalize w5.setCell ⟨b, 5, none⟩ (.int .i64 n1) = W5 at *
      clear u0 v0 u1 v1 u2 v2 u3 v3 u4 v4 u5 v5 u6 v6 u7 v7
      go_wp2_with fail
      refine (numberS_any g S _ _ _ H.out hS).mono ?_
      rintro e w5 ⟨n2, E_n2, o_n2, rfl, hn, S5, K5⟩
      replace Q := Lib.hid (SeqP.snoc Q.out hn)
      replace T := Lib.hid (T.out.kept K5)
      replace H := Lib.hid (S5.put (b := b) (j := 6) (by have := T.out.hb; have := T.out.hg; omega) (.int .i64 n2))
      clear hn S5 K5
      have u0 := T.out.s.at 0 _ rfl
      have v0 := T.out.s.f 0
      have u1 := T.out.s.at 1 _ rfl
      have v1 := T.out.s.f 1
      have u2 := T.out.s.at 2 _ rfl
      have v2 := T.out.s.f 2
      have u3 := T.out.s.at 3 _ rfl
      have v3 := T.out.s.f 3
      have u4 := T.out.s.at 4 _ rfl
      have v4 := T.out.s.f 4
      have u5 := T.out.s.at 5 _ rfl
      have v5 := T.out.s.f 5
      have u6 := T.out.s.at 6 _ rfl
      have v6 := T.out.s.f 6
      have u7 := T.out.s.at 7 _ rfl
      have v7 := T.out.s.f 7
      replace T := Lib.hid (T.out.sd n2)
      go_upto_region 11 with fail
      generalize w5.setCell ⟨b, 6, none⟩ (.int .i64 n2) = W5 at *
      clear u0 v0 u1 v1 u2 v2 u3 v3 u4 v4 u5 v5 u6 v6 u7 v7
      go_wp2_with fail
      refine (numberS_any g S _ _ _ H.out hS).mono ?_
      rintro e w5 ⟨n3, E_n3, o_n3, rfl, hn, S5, K5⟩
      replace Q := Lib.hid (SeqP.snoc Q.out hn)
      replace T := Lib.hid (T.out.kept K5)
      replace H := Lib.hid (S5.put (b := b) (j := 7) (by have := T.out.hb; have := T.out.hg; omega) (.int .i64 n3))
      clear hn S5 K5
      have u0 := T.out.s.at 0 _ rfl
      have v0 := T.out.s.f 0
      have u1 := T.out.s.at 1 _ rfl
      have v1 := T.out.s.f 1
      have u2 := T.out.s.at 2 _ rfl
      have v2 := T.out.s.f 2
      have u3 := T.out.s.at 3 _ rfl
      have v3 := T.out.s.f 3
      have u4 := T.out.s.at 4 _ rfl
      have v4 := T.out.s.f 4
      have u5 := T.out.s.at 5 _ rfl
      have v5 := T.out.s.f 5
      have u6 := T.out.s.at 6 _ rfl
      have v6 := T.out.s.f 6
      have u7 := T.out.s.at 7 _ rfl
      have v7 := T.out.s.f 7
      replace T := Lib.hid (T.out.sq n3)
      go_upto_region 21 with fail
      generalize w5.setCell ⟨b, 7, none⟩ (.int .i64 n3) = W5 at *
      clear u0 v0 u1 v1 u2 v2 u3 v3 u4 v4 u5 v5 u6 v6 u7 v7
      have u0 := T.out.s.at 0 _ rfl
      have v0 := T.out.s.f 0
      have u1 := T.out.s.at 1 _ rfl
      have v1 := T.out.s.f 1
      have u2 := T.out.s.at 2 _ rfl
      have v2 := T.out.s.f 2
      have u3 := T.out.s.at 3 _ rfl
      have v3 := T.out.s.f 3
      have u4 := T.out.s.at 4 _ rfl
      have v4 := T.out.s.f 4
      have u5 := T.out.s.at 5 _ rfl
      have v5 := T.out.s.f 5
      have u6 := T.out.s.at 6 _ rfl
      have v6 := T.out.s.f 6
      have u7 := T.out.s.at 7 _ rfl
      have v7 := T.out.s.f 7
      have r0 := T.out.r.at 0 _ rfl
      have f0 := T.out.r.f 0
      have r1 := T.out.r.at 1 _ rfl
      have f1 := T.out.r.f 1
      have r2 := T.out.r.at 2 _ rfl
      have f2 := T.out.r.f 2
      have r3 := T.out.r.at 3 _ rfl
      have f3 := T.out.r.f 3
      have r4 := T.out.r.at 4 _ rfl
      have f4 := T.out.r.f 4
      have r5 := T.out.r.at 5 _ rfl
      have f5 := T.out.r.f 5
      have r6 := T.out.r.at 6 _ rfl
      have f6 := T.out.r.f 6
      have r7 := T.out.r.at 7 _ rfl
      have f7 := T.out.r.f 7
      have HE := Lib.hid (UI.fin T.out)
      have HH : Hid (∀ a0 a1 a2 a3 a4 a5 a6 a7, StS g S _ _ ((((((((W5.setCell ⟨w.heap.size, 0, none⟩ a0).setCell ⟨w.heap.size, 1, none⟩ a1).setCell ⟨w.heap.size, 2, none⟩ a2).setCell ⟨w.heap.size, 3, none⟩ a3).setCell ⟨w.heap.size, 4, none⟩ a4).setCell ⟨w.heap.size, 5, none⟩ a5).setCell ⟨w.heap.size, 6, none⟩ a6).setCell ⟨w.heap.size, 7, none⟩ a7)) := fun a0 a1 a2 a3 a4 a5 a6 a7 => by
        have hne : w.heap.size ≠ g := by have := HG.out; omega
        iterate 8 (refine StS.put ?_ hne _)
        exact H.out
      have HP := Lib.hid (NotP.other (x := ⟨nm, (kd : Int), 0, 0, [], n1, n2, n3⟩) HED.out ⟨hka, hkb, hkc⟩ HED.out.1 rfl Q.out.1 Q.out.2.1)
      clear T H
      go_wp2
      refine bodyPost_ret ?_ rfl ⟨⟨nm, (kd : Int), 0, 0, [], n1, n2, n3⟩, _, _, _, rfl, HP.out, HH.out _ _ _ _ _ _ _ _, (HE.out _ _ _ _ _ _ _ _).2, (HE.out _ _ _ _ _ _ _ _).1⟩
      simp [results, Tryz.results67, go_sem, r0, r1, r2, r3, r4, r5, r6, r7]
  · have hD0 : o1 = false ∨ D1.length < c := by
      by_cases h : o1 = true
      · right
        have : ¬ p + c ≤ S.size := fun h2 => hgo ⟨h, h2⟩
        omega
      · left; simpa using h
    have HP := Lib.hid (NotP.fail HB1.out hD0)
    have HH : Hid (∀ n, StS g S D1 false ((w1.drewN n).setCell ⟨g, 2, none⟩ (.bool false)) ∧ Keep g w ((w1.drewN n).setCell ⟨g, 2, none⟩ (.bool false)) ∧ BoxV w.heap.size ntZv ((w1.drewN n).setCell ⟨g, 2, none⟩ (.bool false))) := fun n =>
      ⟨⟨p, hp, HD.out, ⟨fun j v hv => (HBX.out.set 2 (.bool false) (by simp)).c j v hv, fun j => (World.frozen?_setCell _ _ _ _).trans (HBX.out.f j), by simpa using HBX.out.lt⟩⟩, (K.out.drewN2 n).set _ _,
        BoxV.setFar (W := w1.drewN n) ⟨R.out.c, R.out.f, R.out.lt⟩ _ (by have := HG.out; omega)⟩
    have hcond : (o1 = false) ∨ (o1 = true ∧ (S.size : Int) < (p : Int) + (c : Int)) := by
      cases o1
      · exact .inl rfl
      · refine .inr ⟨rfl, ?_⟩
        rcases hD0 with h | h
        · cases h
        · omega
    have HHF : Hid (∀ n a0 a1 a2 a3 a4 a5 a6 a7, StS g S D1 false ((((((((((w1.drewN n).setCell ⟨g, 2, none⟩ (.bool false)).setCell ⟨w.heap.size, 0, none⟩ a0).setCell ⟨w.heap.size, 1, none⟩ a1).setCell ⟨w.heap.size, 2, none⟩ a2).setCell ⟨w.heap.size, 3, none⟩ a3).setCell ⟨w.heap.size, 4, none⟩ a4).setCell ⟨w.heap.size, 5, none⟩ a5).setCell ⟨w.heap.size, 6, none⟩ a6).setCell ⟨w.heap.size, 7, none⟩ a7) ∧ Keep g w ((((((((((w1.drewN n).setCell ⟨g, 2, none⟩ (.bool false)).setCell ⟨w.heap.size, 0, none⟩ a0).setCell ⟨w.heap.size, 1, none⟩ a1).setCell ⟨w.heap.size, 2, none⟩ a2).setCell ⟨w.heap.size, 3, none⟩ a3).setCell ⟨w.heap.size, 4, none⟩ a4).setCell ⟨w.heap.size, 5, none⟩ a5).setCell ⟨w.heap.size, 6, none⟩ a6).setCell ⟨w.heap.size, 7, none⟩ a7)) := fun n a0 a1 a2 a3 a4 a5 a6 a7 => by
      have hne : w.heap.size ≠ g := by have := HG.out; omega
      refine ⟨?_, ?_⟩
      · iterate 8 (refine StS.put ?_ hne _)
        exact (HH.out n).1
      · iterate 8 (refine Keep.putU ?_ HG.out (Nat.le_refl _) _ _)
        exact (HH.out n).2.1
    clear hD0 hgo K R HD HBX
    rcases hcond with ho | ⟨ho, hlt⟩
    · subst ho
      go_wp2_with fail
      go_quiet (fail)
      obtain ⟨_, _, R3⟩ := HH.out nq
      have T := Lib.hid R3
      go_upto_region 4 with fail
      have r0 := T.out.at 0 _ rfl
      have f0 := T.out.f 0
      have r1 := T.out.at 1 _ rfl
      have f1 := T.out.f 1
      have r2 := T.out.at 2 _ rfl
      have f2 := T.out.f 2
      have r3 := T.out.at 3 _ rfl
      have f3 := T.out.f 3
      have r4 := T.out.at 4 _ rfl
      have f4 := T.out.f 4
      have r5 := T.out.at 5 _ rfl
      have f5 := T.out.f 5
      have r6 := T.out.at 6 _ rfl
      have f6 := T.out.f 6
      have r7 := T.out.at 7 _ rfl
      have f7 := T.out.f 7
      go_wp2
      refine bodyPost_ret ?_ rfl ⟨⟨⟨#[]⟩, 0, 0, 0, [], 0, 0, 0⟩, .slice none 0 0, _, _, rfl, HP.out, (HHF.out _ _ _ _ _ _ _ _ _).1, (HHF.out _ _ _ _ _ _ _ _ _).2, by simpa using World.ownsRow_nil _ (w.heap.size + 1) 2 1⟩
      simp [results, Tryz.results67, go_sem, r0, r1, r2, r3, r4, r5, r6, r7]
    · subst ho
      go_wp2_with fail
      go_quiet (fail)
      obtain ⟨_, _, R3⟩ := HH.out nq
      have T := Lib.hid R3
      go_upto_region 4 with fail
      have r0 := T.out.at 0 _ rfl
      have f0 := T.out.f 0
      have r1 := T.out.at 1 _ rfl
      have f1 := T.out.f 1
      have r2 := T.out.at 2 _ rfl
      have f2 := T.out.f 2
      have r3 := T.out.at 3 _ rfl
      have f3 := T.out.f 3
      have r4 := T.out.at 4 _ rfl
      have f4 := T.out.f 4
      have r5 := T.out.at 5 _ rfl
      have f5 := T.out.f 5
      have r6 := T.out.at 6 _ rfl
      have f6 := T.out.f 6
      have r7 := T.out.at 7 _ rfl
      have f7 := T.out.f 7
      go_wp2
      refine bodyPost_ret ?_ rfl ⟨⟨⟨#[]⟩, 0, 0, 0, [], 0, 0, 0⟩, .slice none 0 0, _, _, rfl, HP.out, (HHF.out _ _ _ _ _ _ _ _ _).1, (HHF.out _ _ _ _ _ _ _ _ _).2, by simpa using World.ownsRow_nil _ (w.heap.size + 1) 2 1⟩
      simp [results, Tryz.results67, go_sem, r0, r1, r2, r3, r4, r5, r6, r7]
end Go.Proofs.YtpnabggpdgjbmaaGreatDoor
