/- Exact law: the program's SameDesk returns what the reference's returns, for all arguments. No condition. -/
import Derived.Test.YtbcmjifhnpjkoaaSameDeskW
import Derived.Test.YtbcmjifhnpjkoaaOpenNd
import Derived.Deep.RegionHeld3
namespace Go.Proofs.Ytbcmjifhnpjkoaa.fnExactSameDesk
open Go.ChangeShapes Go.WideShapes Go.ChangeAt Go.RowKit
open Go.ChangeMaps (open_string shut_string)

/-- What the loads of the drawn statement read, and that all that was there is there. -/
@[reducible] def SD (w : World) (A B : Option Addr) (n c m d : Nat) (w' : World) : Prop :=
  w'.cell? ⟨w.heap.size, 0, none⟩ = some (.slice A n c) ∧ w'.cell? ⟨w.heap.size + 1, 0, none⟩ = some (.slice B m d) ∧ Below w.heap.size w w' ∧ w.heap.size + 1 < w'.heap.size
theorem SD.next {w W W' : World} {A B : Option Addr} {n c m d : Nat} (h : SD w A B n c m d W) (hb : Below W.heap.size W W') : SD w A B n c m d W' := by
  obtain ⟨h1, h2, h5, h6⟩ := h
  exact ⟨(hb.cell (p := ⟨w.heap.size, 0, none⟩) (by simp; omega)).trans h1, (hb.cell (p := ⟨w.heap.size + 1, 0, none⟩) h6).trans h2, ext_trans h5 hb, Nat.lt_of_lt_of_le h6 hb.size⟩
/-- A desk that lies in block b. -/
def Bx (b : Nat) (A : Option Addr) (n c : Nat) (W : World) : Prop := W.cell? ⟨b, 0, none⟩ = some (.slice A n c) ∧ b < W.heap.size
theorem Bx.next {b : Nat} {A : Option Addr} {n c : Nat} {W W' : World} (h : Bx b A n c W) (hb : Below W.heap.size W W') : Bx b A n c W' :=
  ⟨(hb.cell (p := ⟨b, 0, none⟩) h.2).trans h.1, Nat.lt_of_lt_of_le h.2 hb.size⟩
theorem Bx.new (A : Option Addr) (n c : Nat) (W : World) (T : TypeId) : Bx W.heap.size A n c (W.alloc (.cells #[.slice A n c] T)) := ⟨by rw [cell_one]; rfl, by simp⟩
theorem keep2 {V W W' : World} {a b : Nat} {u1 u2 : Option Value} (ha : a < V.heap.size) (hb : b < V.heap.size)
    (h : W.cell? ⟨a, 0, none⟩ = u1 ∧ W.cell? ⟨b, 0, none⟩ = u2 ∧ Below V.heap.size V W) (k : Below W.heap.size W W') : W'.cell? ⟨a, 0, none⟩ = u1 ∧ W'.cell? ⟨b, 0, none⟩ = u2 ∧ Below V.heap.size V W' := by
  obtain ⟨h1, h2, h5⟩ := h
  have hs := h5.size
  exact ⟨(k.cell (p := ⟨a, 0, none⟩) (by simp; omega)).trans h1, (k.cell (p := ⟨b, 0, none⟩) (by simp; omega)).trans h2, ext_trans h5 k⟩
theorem last2 {p q t : Prop} (h : p ∧ q ∧ t) : t := h.2.2

set_option maxHeartbeats 2000000 in
theorem walkG (A B : Option Addr) (c d : Nat) (xs ys : List Nd) (w : World) (hx : RdN w w.heap.size A xs) (hy : RdN w w.heap.size B ys) (hf : ∀ x ∈ xs, x.fits) (hg : ∀ y ∈ ys, y.fits) (hm : xs.length ≤ maxLen) (hm' : ys.length ≤ maxLen) :
    Calls Try.prog 7 #[.agg #[.slice A xs.length c], .agg #[.slice B ys.length d]] w fun e w' => e = .returned (.bool true) ∧ Below w.heap.size w w' := by
  have hx2 : ∀ W : World, Below w.heap.size w W → RdN W W.heap.size A xs := fun W hb => (hx.below hb).more hb.size
  have hy2 : ∀ W : World, Below w.heap.size w W → RdN W W.heap.size B ys := fun W hb => (hy.below hb).more hb.size
  have HX := Lib.hid hx2
  have HY := Lib.hid hy2
  have HF := Lib.hid hf
  have HG := Lib.hid hg
  clear hx2 hy2 hx hy hf hg
  obtain ⟨tx, htx⟩ : ∃ t : Nat, xs.length + ndTot xs = t := ⟨_, rfl⟩
  obtain ⟨ty, hty⟩ : ∃ t : Nat, ys.length + ndTot ys = t := ⟨_, rfl⟩
  have HZA : Hid (∀ W, Below w.heap.size w W → Calls Try.prog 30 #[.agg #[.slice A xs.length c], .int .i64 1048576] W fun e w' => e = .returned (.int .i64 (if (tx : Int) ≤ 1048576 then 1048576 - tx else -1)) ∧ Below W.heap.size W w') := fun W hb => by
    have := szDesk_any A c xs 1048576 W (HX.out W hb) HF.out hm (by omega) (by omega)
    rwa [htx] at this
  by_cases h1 : (tx : Int) ≤ 1048576
  · rw [if_pos h1] at HZA
    have HZB : Hid (∀ W, Below w.heap.size w W → Calls Try.prog 30 #[.agg #[.slice B ys.length d], .int .i64 (1048576 - tx)] W fun e w' => e = .returned (.int .i64 (if (ty : Int) ≤ 1048576 - tx then 1048576 - tx - ty else -1)) ∧ Below W.heap.size W w') := fun W hb => by
      have := szDesk_any B d ys (1048576 - tx) W (HY.out W hb) HG.out hm' (by omega) (by omega)
      rwa [hty] at this
    have hl0 : 0 ≤ (1048576 : Int) - tx := by omega
    by_cases h2 : (ty : Int) ≤ 1048576 - tx
    · rw [if_pos h2] at HZB
      have hl1 : 0 ≤ (1048576 : Int) - tx - ty := by omega
      have hX : xs.length ≤ 1048576 ∧ ∀ x ∈ xs, x.terms.length ≤ 1048576 := ⟨by omega, fun x hx => by have := nd_le hx; omega⟩
      have hY : ys.length ≤ 1048576 ∧ ∀ x ∈ ys, x.terms.length ≤ 1048576 := ⟨by omega, fun x hx => by have := nd_le hx; omega⟩
      have CA : ∀ W, SD w A B xs.length c ys.length d W → Calls Try.prog 32 #[.agg #[.slice A xs.length c]] W fun e w' => ∃ D f, e = .returned (.agg #[.slice D xs.length f]) ∧ WrN w' W.heap.size D xs ∧ Below W.heap.size W w' := fun W h => toDesk_any A c xs W (HX.out W h.2.2.1) hX.2 hX.1
      have CB : ∀ W, SD w A B xs.length c ys.length d W → Calls Try.prog 32 #[.agg #[.slice B ys.length d]] W fun e w' => ∃ D f, e = .returned (.agg #[.slice D ys.length f]) ∧ WrN w' W.heap.size D ys ∧ Below W.heap.size W w' := fun W h => toDesk_any B d ys W (HY.out W h.2.2.1) hY.2 hY.1
      have EA : ∀ W C D f g, RdN W W.heap.size C xs → RdN W W.heap.size D xs → Calls Try.prog 34 #[.agg #[.slice C xs.length f], .agg #[.slice D xs.length g]] W fun e w' => e = .returned (.bool true) ∧ Below W.heap.size W w' := fun W C D f g h k => eqDesk_any C D f g xs W h k (fun x hx => (HF.out x hx).2) hX.1
      have EB : ∀ W C D f g, RdN W W.heap.size C ys → RdN W W.heap.size D ys → Calls Try.prog 34 #[.agg #[.slice C ys.length f], .agg #[.slice D ys.length g]] W fun e w' => e = .returned (.bool true) ∧ Below W.heap.size W w' := fun W C D f g h k => eqDesk_any C D f g ys W h k (fun x hx => (HG.out x hx).2) hY.1
      have HCA := Lib.hid CA
      have HCB := Lib.hid CB
      have HEA := Lib.hid EA
      have HEB := Lib.hid EB
      clear CA CB EA EB hX hY htx hty
      go_enter Try.func7, Try.ntmps7
      go_wp2_with fail
      refine (HZA.out _ (ext_alloc (ext1 _ _) _)).mono ?_
      rintro e w1 ⟨rfl, hb1⟩
      obtain ⟨hc1, hf1⟩ := bcell hb1
      have hy1 := hb1.size
      (try simp at hy1)
      have hz1_0 : w.heap.size < w1.heap.size := by omega
      have hz1_1 : w.heap.size + 1 < w1.heap.size := by omega
      have E1 : Below w.heap.size w w1 := ext_trans (ext_alloc (ext1 _ _) _) hb1
      go_wp2_with fail
      refine (HZB.out _ E1).mono ?_
      rintro e w2 ⟨rfl, hb2⟩
      obtain ⟨hc2, hf2⟩ := bcell hb2
      have hy2 := hb2.size
      have hz2_1 : w.heap.size + 1 < w2.heap.size := by omega
      have E2 : Below w.heap.size w w2 := ext_trans E1 hb2
      go_wp2
      have k1 : w2.cell? ⟨w.heap.size, 0, none⟩ = some (.slice A xs.length c) := by rw [hc2 w.heap.size 0 hz1_0, hc1 w.heap.size 0 (by simp only [World.size_alloc]; omega), cell_two_fst]; rfl
      have k3 : w2.cell? ⟨w.heap.size + 1, 0, none⟩ = some (.slice B ys.length d) := by rw [hc2 (w.heap.size + 1) 0 hz1_1, hc1 (w.heap.size + 1) 0 (by simp only [World.size_alloc]; omega), cell_two_snd]; rfl
      clear hc1 hf1 hc2 hf2
      go_region_held3 (fun w' => w'.cell? ⟨w.heap.size, 0, none⟩ = some (.slice A xs.length c) ∧ w'.cell? ⟨w.heap.size + 1, 0, none⟩ = some (.slice B ys.length d) ∧ Below w.heap.size w w' ∧ w.heap.size + 1 < w'.heap.size)
        (first | exact ⟨k1, k3, E2.drew, hz2_1⟩ | exact SD.next (by assumption) (by assumption))
        (first
          | (go_at_call 32; (with_reducible refine (HCA.out _ (by assumption)).mono ?_); rintro e w3 ⟨C, cc, rfl, hw3, hb3⟩)
          | (go_at_call 32; (with_reducible refine (HCB.out _ (by assumption)).mono ?_); rintro e w4 ⟨D, dd, rfl, hw4, hb4⟩)
          | (go_at_call 31; (with_reducible refine (sSameDesk_any _ _ _ _ xs ys _ (hw3.rd.next hb4) hw4.rd HF.out HG.out hm).mono ?_); rintro e w5 ⟨rfl, hb5⟩))
      have s2 : SD w A B xs.length c ys.length d w2.drew := ⟨k1, k3, E2.drew, hz2_1⟩
      have s5 := SD.next (SD.next (SD.next s2 hb3) hb4) hb5
      clear k1 k3
      obtain ⟨m1, m3, _, _⟩ := id s5
      go_wp2_with fail
      refine (HCA.out _ s5).mono ?_
      rintro e w6 ⟨C6, c6, rfl, hw6, hb6⟩
      have s6 := SD.next s5 hb6
      clear m1 m3
      obtain ⟨m1, m3, _, _⟩ := id s6
      have s6' := SD.next s6 (ext1 w6 (.cells #[.slice C6 xs.length c6] 52))
      have x0 := Bx.new C6 xs.length c6 w6 52
      go_wp2_with fail
      refine (HCB.out _ s6').mono ?_
      rintro e w7 ⟨C7, c7, rfl, hw7, hb7⟩
      have s7 := SD.next s6' hb7
      have x0' := x0.next hb7
      have hw6' := (hw6.rd.next (ext1 _ (.cells #[.slice C6 xs.length c6] 52))).next hb7
      clear m1 m3 x0
      obtain ⟨m1, m3, _, _⟩ := id s7
      obtain ⟨n1, n3⟩ := id x0'
      go_wp2_with fail
      have x1 := Bx.new C7 ys.length c7 w7 52
      have x0'' := x0'.next (ext1 w7 (.cells #[.slice C7 ys.length c7] 52))
      have s7' := SD.next s7 (ext1 w7 (.cells #[.slice C7 ys.length c7] 52))
      have hw7' := hw7.rd.next (ext1 w7 (.cells #[.slice C7 ys.length c7] 52))
      have hw6'' := hw6'.next (ext1 w7 (.cells #[.slice C7 ys.length c7] 52))
      refine (iSameDesk_any _ _ _ _ xs ys _ hw6'' hw7' HF.out HG.out hm).mono ?_
      rintro e w8 ⟨rfl, hb8⟩
      have s8 := SD.next s7' hb8
      have x08 := x0''.next hb8
      have x18 := x1.next hb8
      have hw68 := hw6''.next hb8
      have hw78 := hw7'.next hb8
      clear m1 m3 n1 n3
      obtain ⟨m1, m3, _, _⟩ := id s8
      obtain ⟨n1, n3⟩ := id x08
      obtain ⟨o1, o3⟩ := id x18
      have hw8 : w.heap.size < w8.heap.size := by have := s8.2.2.2; omega
      have hw8' : w.heap.size + 1 < w8.heap.size := s8.2.2.2
      go_wp2
      go_region_held3 (fun w' => w'.cell? ⟨w6.heap.size, 0, none⟩ = some (.slice C6 xs.length c6) ∧ w'.cell? ⟨w.heap.size, 0, none⟩ = some (.slice A xs.length c) ∧ Below w8.heap.size w8 w')
        (first | exact ⟨n1, m1, (Below.refl _ _).drew⟩ | exact keep2 n3 hw8 (by assumption) (by assumption))
        (first
          | (go_at_call 32; (with_reducible refine (HCA.out _ (SD.next s8 (last2 (by assumption)))).mono ?_); rintro e w9 ⟨C9, c9, rfl, hw9, hb9⟩)
          | (go_at_call 34; (with_reducible refine (HEA.out _ _ _ _ _ ((hw68.next (ext_drew (Below.refl _ _))).next hb9) hw9.rd).mono ?_); rintro e w10 ⟨rfl, hb10⟩))
      have hbA := ext_trans (ext_drew (Below.refl w8.heap.size w8)) (ext_trans hb9 hb10)
      have s10 := SD.next s8 hbA
      have x10 := x18.next hbA
      have hw710 := hw78.next hbA
      clear m1 m3 n1 n3 o1 o3
      obtain ⟨m1, m3, _, _⟩ := id s10
      obtain ⟨o1, o3⟩ := id x10
      have hw10 : w.heap.size + 1 < w10.heap.size := s10.2.2.2
      go_wp2
      go_region_held3 (fun w' => w'.cell? ⟨w7.heap.size, 0, none⟩ = some (.slice C7 ys.length c7) ∧ w'.cell? ⟨w.heap.size + 1, 0, none⟩ = some (.slice B ys.length d) ∧ Below w10.heap.size w10 w')
        (first | exact ⟨o1, m3, (Below.refl _ _).drew⟩ | exact keep2 o3 hw10 (by assumption) (by assumption))
        (first
          | (go_at_call 32; (with_reducible refine (HCB.out _ (SD.next s10 (last2 (by assumption)))).mono ?_); rintro e w11 ⟨C11, c11, rfl, hw11, hb11⟩)
          | (go_at_call 34; (with_reducible refine (HEB.out _ _ _ _ _ ((hw710.next (ext_drew (Below.refl _ _))).next hb11) hw11.rd).mono ?_); rintro e w12 ⟨rfl, hb12⟩))
      have hbB := ext_trans (ext_drew (Below.refl w10.heap.size w10)) (ext_trans hb11 hb12)
      go_wp2
      go_ret
      exact ⟨rfl, ext_trans s10.2.2.1 hbB⟩
    · rw [if_neg h2] at HZB
      go_enter Try.func7, Try.ntmps7
      go_wp2_with fail
      refine (HZA.out _ (ext_alloc (ext1 _ _) _)).mono ?_
      rintro e w1 ⟨rfl, hb1⟩
      obtain ⟨hc1, hf1⟩ := bcell hb1
      have hy1 := hb1.size
      (try simp at hy1)
      have hz1_1 : w.heap.size + 1 < w1.heap.size := by omega
      have E1 : Below w.heap.size w w1 := ext_trans (ext_alloc (ext1 _ _) _) hb1
      go_wp2_with fail
      refine (HZB.out _ E1).mono ?_
      rintro e w2 ⟨rfl, hb2⟩
      go_wp2
      go_ret
      exact ⟨rfl, ext_trans E1 hb2⟩
  · rw [if_neg h1] at HZA
    go_enter Try.func7, Try.ntmps7
    go_wp2_with fail
    refine (HZA.out _ (ext_alloc (ext1 _ _) _)).mono ?_
    rintro e w1 ⟨rfl, hb1⟩
    go_wp2
    go_ret
    exact ⟨rfl, ext_trans (ext_alloc (ext1 _ _) _) hb1⟩

theorem walk (A : Option Addr) (l c : Nat) (xs : List Nd) (B : Option Addr) (m d : Nat) (ys : List Nd) (w : World) (hx : IsNd w A l xs) (hy : IsNd w B m ys) :
    Calls Try.prog 7 #[.agg #[.slice A l c], .agg #[.slice B m d]] w fun e w' => e = .returned (.bool true) ∧ Below w.heap.size w w' := by
  obtain ⟨rfl, h1, h2, h3⟩ := hx
  obtain ⟨rfl, g1, g2, g3⟩ := hy
  exact walkG A B c d xs ys w h3 g3 h2 g2 h1 g1

theorem own : ownKnob Try.prog.godebug = none := by kernel_rfl
theorem laidOut : laidOutB Try.prog = true := by kernel_rfl
set_option linter.unusedVariables false in
set_option maxRecDepth 100000 in
theorem lifted (os : Os) (started : os.Started) (H : Type) (enc : TypeId × Value → H) :
    ReturnsInHanded {} Try.checked os 7 .any (Rows.fnExactSameDeskSpec.pre6 enc Try.prog Try.f7 Rows.fnExactSameDeskRow.domain false) (Rows.fnExactSameDeskSpec.post enc Try.prog Try.f7 false true false false) := by
  refine returnsInHanded_of_change (C := Try.checked) own started (by kernel_rfl) Try.func7
    (ChangeSpec.witness6 (enc := enc) (C := Try.checked) false ⟨#[], #[.agg #[.slice none 0 0], .agg #[.slice none 0 0]], []⟩ 8 (by kernel_rfl) (by kernel_rfl) (by kernel_rfl) (by kernel_rfl)) ?_
  intro W base args ds gs before hval0 hW hcnd _
  have hval : ∀ (j : Nat) t v, Try.f7.params[j]? = some t → args[j]? = some v → Value.okWide Try.prog W .any base t v := hval0
  have hW' := hW
  obtain ⟨p, q, hA0, hV, rfl, hfz, hnd⟩ := hW
  have hA : DataW.TrodAll enc Try.prog W 0 (fun _ => true) true Try.f7.params.toList args.toList ds p := hA0
  rw [Try.params7] at hA hval
  obtain ⟨v0, vs0, d0, ds0, p0, q0, hargs, rfl, rfl, h0, r0⟩ := trodAll_cons hA
  obtain ⟨v1, vs1, d1, ds1, p1, q1, rfl, rfl, rfl, h1, r1⟩ := trodAll_cons r0
  obtain ⟨rfl, rfl, rfl⟩ := trodAll_nil r1
  obtain rfl : args = #[v0, v1] := by cases args; simp_all
  obtain ⟨rfl, rfl⟩ := trodVars_none hV
  have k0 := h0
  have lt0 : ∀ x ∈ p0, x.block < W.heap.size := by obtain ⟨m, hm⟩ := k0; exact DataW.trod_lt m _ _ _ hm
  obtain ⟨A0, l0, c0, z0, rfl, w0⟩ := open_desk (hval 0 47 v0 rfl rfl) h0
  have k1 := h1
  have lt1 : ∀ x ∈ p1, x.block < W.heap.size := by obtain ⟨m, hm⟩ := k1; exact DataW.trod_lt m _ _ _ hm
  obtain ⟨A1, l1, c1, z1, rfl, w1⟩ := open_desk (hval 1 47 v1 rfl rfl) h1
  clear hA0 hval0
  refine (walk A0 l0 c0 z0 A1 l1 c1 z1 W w0 w1).mono fun e W' ⟨he, bel⟩ => ?_
  subst he
  exact ⟨_, rfl, _, _, _, [], _, [], hW', trodAll_mk1 (shut_bool Try.underlying4 _), (trodAll_cons_mk (Below.trod laidOut (by kernel_rfl) (of_decide_eq_true (by kernel_rfl)) k0 bel lt0) (trodAll_cons_mk (Below.trod laidOut (by kernel_rfl) (of_decide_eq_true (by kernel_rfl)) k1 bel lt1) trodAll_mk0)), rfl, bel.frame _, fun h => by cases h⟩

theorem over : Rows.fnExactSameDeskRow.holds Try.pinned (OpenSpec.ofChange Rows.fnExactSameDeskSpec) :=
  OpenClaim.holds_of_wide 7 Try.f7 rfl rfl rfl rfl rfl rfl rfl ⟨rfl, rfl, rfl, rfl, rfl⟩ rfl rfl rfl rfl rfl (by kernel_rfl) Try.func7 (by kernel_rfl)
    (of_decide_eq_true (by kernel_rfl)) (by unfold Func.isWrapper; first | (rw [if_pos (by decide +kernel)]; kernel_rfl) | (rw [if_neg (by decide +kernel)]; exact ⟨rfl, rfl⟩))
    (fun os started H enc _ => lifted os started H enc)

theorem proved : Rows.FnExactSameDeskSaid := over
#print axioms proved
end Go.Proofs.Ytbcmjifhnpjkoaa.fnExactSameDesk
