/- Exact law: the program's SameCertificate returns what the reference's returns, for all arguments. No condition. -/
import Derived.Test.YtgmjodliigkioaaCertW
import Derived.Test.YtgmjodliigkioaaFrame
namespace Go.Proofs.Ytgmjodliigkioaa.fnExactSameCertificate
open Go.ChangeShapes Go.WideShapes Go.ChangeAt Go.RowKit
open Go.ChangeMaps (open_string shut_string)

/-- What the loads of the drawn statement read, and that all that was there is there. -/
@[reducible] def SC (w : World) (j k : Int) (A B : Option Addr) (n c m d : Nat) (w' : World) : Prop :=
  w'.cell? ⟨w.heap.size, 0, none⟩ = some (.int .i64 j) ∧ w'.cell? ⟨w.heap.size, 1, none⟩ = some (.slice A n c) ∧ w'.cell? ⟨w.heap.size + 1, 0, none⟩ = some (.int .i64 k) ∧ w'.cell? ⟨w.heap.size + 1, 1, none⟩ = some (.slice B m d) ∧
  Below w.heap.size w w' ∧ w.heap.size + 1 < w'.heap.size
theorem SC.next {w W W' : World} {j k : Int} {A B : Option Addr} {n c m d : Nat} (h : SC w j k A B n c m d W) (hb : Below W.heap.size W W') : SC w j k A B n c m d W' := by
  obtain ⟨h1, h2, h3, h4, h5, h6⟩ := h
  exact ⟨(hb.cell (p := ⟨w.heap.size, 0, none⟩) (by simp; omega)).trans h1, (hb.cell (p := ⟨w.heap.size, 1, none⟩) (by simp; omega)).trans h2, (hb.cell (p := ⟨w.heap.size + 1, 0, none⟩) h6).trans h3, (hb.cell (p := ⟨w.heap.size + 1, 1, none⟩) h6).trans h4,
    ext_trans h5 hb, Nat.lt_of_lt_of_le h6 hb.size⟩

/-- A certificate that lies in block b. -/
def Bx (b : Nat) (k : Int) (A : Option Addr) (n c : Nat) (W : World) : Prop := W.cell? ⟨b, 0, none⟩ = some (.int .i64 k) ∧ W.cell? ⟨b, 1, none⟩ = some (.slice A n c) ∧ b < W.heap.size
theorem Bx.next {b : Nat} {k : Int} {A : Option Addr} {n c : Nat} {W W' : World} (h : Bx b k A n c W) (hb : Below W.heap.size W W') : Bx b k A n c W' :=
  ⟨(hb.cell (p := ⟨b, 0, none⟩) h.2.2).trans h.1, (hb.cell (p := ⟨b, 1, none⟩) h.2.2).trans h.2.1, Nat.lt_of_lt_of_le h.2.2 hb.size⟩
theorem Bx.new (k : Int) (A : Option Addr) (n c : Nat) (W : World) (T : TypeId) : Bx W.heap.size k A n c (W.alloc (.cells #[.int .i64 k, .slice A n c] T)) :=
  ⟨by rw [cell_one]; rfl, by rw [cell_one]; rfl, by simp⟩
theorem ext1 (W : World) (o : Obj) : Below W.heap.size W (W.alloc o) := ext_alloc (Below.refl _ _) o

theorem keep4 {V W W' : World} {a b : Nat} {u1 u2 u3 u4 : Option Value} (ha : a < V.heap.size) (hb : b < V.heap.size)
    (h : W.cell? ⟨a, 0, none⟩ = u1 ∧ W.cell? ⟨a, 1, none⟩ = u2 ∧ W.cell? ⟨b, 0, none⟩ = u3 ∧ W.cell? ⟨b, 1, none⟩ = u4 ∧ Below V.heap.size V W) (k : Below W.heap.size W W') :
    W'.cell? ⟨a, 0, none⟩ = u1 ∧ W'.cell? ⟨a, 1, none⟩ = u2 ∧ W'.cell? ⟨b, 0, none⟩ = u3 ∧ W'.cell? ⟨b, 1, none⟩ = u4 ∧ Below V.heap.size V W' := by
  obtain ⟨h1, h2, h3, h4, h5⟩ := h
  have hs := h5.size
  exact ⟨(k.cell (p := ⟨a, 0, none⟩) (by simp; omega)).trans h1, (k.cell (p := ⟨a, 1, none⟩) (by simp; omega)).trans h2, (k.cell (p := ⟨b, 0, none⟩) (by simp; omega)).trans h3, (k.cell (p := ⟨b, 1, none⟩) (by simp; omega)).trans h4, ext_trans h5 k⟩
theorem last4 {p q r s t : Prop} (h : p ∧ q ∧ r ∧ s ∧ t) : t := h.2.2.2.2

set_option maxHeartbeats 1000000 in
theorem walkG (j k : Int) (A B : Option Addr) (c d : Nat) (xs ys : List Int) (w : World) (hx : Rd (Value.int .i64) w w.heap.size A xs) (hy : Rd (Value.int .i64) w w.heap.size B ys) (hm : xs.length ≤ maxLen) (hm' : ys.length ≤ maxLen) :
    Calls Try.prog 9 #[certV j A xs.length c, certV k B ys.length d] w fun e w' => e = .returned (.bool true) ∧ Below w.heap.size w w' := by
  by_cases h1 : (xs.length : Int) ≤ 1048576
  · by_cases h2 : (ys.length : Int) ≤ 1048576 - xs.length
    · have hx2 : ∀ W : World, Below w.heap.size w W → w.heap.size ≤ W.heap.size → Rd (Value.int .i64) W W.heap.size A xs := fun W hb hs => (hx.below hb).more hs
      have hy2 : ∀ W : World, Below w.heap.size w W → w.heap.size ≤ W.heap.size → Rd (Value.int .i64) W W.heap.size B ys := fun W hb hs => (hy.below hb).more hs
      have HX := Lib.hid hx2
      have HY := Lib.hid hy2
      clear hx2 hy2 hx hy
      unfold certV
      go_enter Try.func9, Try.ntmps9
      go_wp2_with fail
      refine (szCertificate_any j A xs.length c 1048576 _ hm (by omega) (by omega)).mono ?_
      rw [if_pos h1]
      rintro e w1 ⟨rfl, hb1⟩
      obtain ⟨hc1, hf1⟩ := bcell hb1
      have hy1 := hb1.size
      (try simp at hy1)
      have hz1_0 : w.heap.size < w1.heap.size := by omega
      have hz1_1 : w.heap.size + 1 < w1.heap.size := by omega
      have hl0 : 0 ≤ (1048576 : Int) - xs.length := by omega
      go_wp2_with fail
      refine (szCertificate_any k B ys.length d _ _ hm' (by omega) (by omega)).mono ?_
      rw [if_pos h2]
      rintro e w2 ⟨rfl, hb2⟩
      obtain ⟨hc2, hf2⟩ := bcell hb2
      have hy2 := hb2.size
      have hz2_0 : w.heap.size < w2.heap.size := by omega
      have hz2_1 : w.heap.size + 1 < w2.heap.size := by omega
      have hl1 : 0 ≤ (1048576 : Int) - xs.length - ys.length := by omega
      have E2 : Below w.heap.size w w2 := ext_trans (ext_trans (ext_alloc (ext_alloc (Below.refl _ _) _) _) hb1) hb2
      go_wp2
      have CA : ∀ W, SC w j k A B xs.length c ys.length d W → Calls Try.prog 36 #[certV j A xs.length c] W (RetCert W j xs) := fun W h => toCertificate_any j A c xs W (HX.out W h.2.2.2.2.1 h.2.2.2.2.1.size) (by omega)
      have CB : ∀ W, SC w j k A B xs.length c ys.length d W → Calls Try.prog 36 #[certV k B ys.length d] W (RetCert W k ys) := fun W h => toCertificate_any k B d ys W (HY.out W h.2.2.2.2.1 h.2.2.2.2.1.size) (by omega)
      have HCA := Lib.hid CA
      have HCB := Lib.hid CB
      clear CA CB
      have k1 : w2.cell? ⟨w.heap.size, 0, none⟩ = some (.int .i64 j) := by rw [hc2 w.heap.size 0 hz1_0, hc1 w.heap.size 0 (by simp only [World.size_alloc]; omega), cell_two_fst]; rfl
      have k2 : w2.cell? ⟨w.heap.size, 1, none⟩ = some (.slice A xs.length c) := by rw [hc2 w.heap.size 1 hz1_0, hc1 w.heap.size 1 (by simp only [World.size_alloc]; omega), cell_two_fst]; rfl
      have k3 : w2.cell? ⟨w.heap.size + 1, 0, none⟩ = some (.int .i64 k) := by rw [hc2 (w.heap.size + 1) 0 hz1_1, hc1 (w.heap.size + 1) 0 (by simp only [World.size_alloc]; omega), cell_two_snd]; rfl
      have k4 : w2.cell? ⟨w.heap.size + 1, 1, none⟩ = some (.slice B ys.length d) := by rw [hc2 (w.heap.size + 1) 1 hz1_1, hc1 (w.heap.size + 1) 1 (by simp only [World.size_alloc]; omega), cell_two_snd]; rfl
      clear hc1 hf1 hc2 hf2
      go_region_held3 (fun w' => w'.cell? ⟨w.heap.size, 0, none⟩ = some (.int .i64 j) ∧ w'.cell? ⟨w.heap.size, 1, none⟩ = some (.slice A xs.length c) ∧ w'.cell? ⟨w.heap.size + 1, 0, none⟩ = some (.int .i64 k) ∧ w'.cell? ⟨w.heap.size + 1, 1, none⟩ = some (.slice B ys.length d) ∧ Below w.heap.size w w' ∧ w.heap.size + 1 < w'.heap.size)
        (first | exact ⟨k1, k2, k3, k4, E2.drew, hz2_1⟩ | exact SC.next (by assumption) (by assumption))
        (first
          | (go_at_call 36; (with_reducible refine (HCA.out _ (by assumption)).mono ?_); rintro e w3 ⟨C, cc, rfl, hw3, hb3⟩)
          | (go_at_call 36; (with_reducible refine (HCB.out _ (by assumption)).mono ?_); rintro e w4 ⟨D, dd, rfl, hw4, hb4⟩)
          | (go_at_call 35; (with_reducible refine (sSameCertificate_any j k _ _ _ _ xs ys _ (hw3.below hb4).rd hw4.rd hm hm').mono ?_); rintro e w5 ⟨rfl, hb5⟩))
      have s2 : SC w j k A B xs.length c ys.length d w2.drew := ⟨k1, k2, k3, k4, E2.drew, hz2_1⟩
      have s5 := SC.next (SC.next (SC.next s2 hb3) hb4) hb5
      clear k1 k2 k3 k4
      obtain ⟨m1, m2, m3, m4, _, _⟩ := id s5
      go_wp2_with fail
      refine (HCA.out _ s5).mono ?_
      rintro e w6 ⟨C6, c6, rfl, hw6, hb6⟩
      have s6 := SC.next s5 hb6
      clear m1 m2 m3 m4
      obtain ⟨m1, m2, m3, m4, _, _⟩ := id s6
      have s6' := SC.next s6 (ext1 w6 (.cells #[.int .i64 j, .slice C6 xs.length c6] 49))
      have x0 := Bx.new j C6 xs.length c6 w6 49
      go_wp2_with fail
      refine (HCB.out _ s6').mono ?_
      rintro e w7 ⟨C7, c7, rfl, hw7, hb7⟩
      have s7 := SC.next s6' hb7
      have x0' := x0.next hb7
      have hw6' := (hw6.below (ext1 _ _)).below hb7
      clear m1 m2 m3 m4 x0
      obtain ⟨m1, m2, m3, m4, _, _⟩ := id s7
      obtain ⟨n1, n2, n3⟩ := id x0'
      go_wp2_with fail
      have x1 := Bx.new k C7 ys.length c7 w7 49
      have x0'' := x0'.next (ext1 w7 (.cells #[.int .i64 k, .slice C7 ys.length c7] 49))
      have s7' := SC.next s7 (ext1 w7 (.cells #[.int .i64 k, .slice C7 ys.length c7] 49))
      have hw7' := hw7.below (ext1 w7 (.cells #[.int .i64 k, .slice C7 ys.length c7] 49))
      have hw6'' := hw6'.below (ext1 w7 (.cells #[.int .i64 k, .slice C7 ys.length c7] 49))
      refine (iSameCertificate_any j k _ _ _ _ xs ys _ hw6''.rd hw7'.rd hm hm').mono ?_
      rintro e w8 ⟨rfl, hb8⟩
      have s8 := SC.next s7' hb8
      have x08 := x0''.next hb8
      have x18 := x1.next hb8
      have hw68 := hw6''.below hb8
      have hw78 := hw7'.below hb8
      clear m1 m2 m3 m4 n1 n2 n3
      obtain ⟨m1, m2, m3, m4, _, _⟩ := id s8
      obtain ⟨n1, n2, n3⟩ := id x08
      obtain ⟨o1, o2, o3⟩ := id x18
      have hw8 : w.heap.size < w8.heap.size := by have := s8.2.2.2.2.2; omega
      have hw8' : w.heap.size + 1 < w8.heap.size := s8.2.2.2.2.2
      go_wp2
      go_region_held3 (fun w' => w'.cell? ⟨w6.heap.size, 0, none⟩ = some (.int .i64 j) ∧ w'.cell? ⟨w6.heap.size, 1, none⟩ = some (.slice C6 xs.length c6) ∧ w'.cell? ⟨w.heap.size, 0, none⟩ = some (.int .i64 j) ∧ w'.cell? ⟨w.heap.size, 1, none⟩ = some (.slice A xs.length c) ∧ Below w8.heap.size w8 w')
        (first | exact ⟨n1, n2, m1, m2, (Below.refl _ _).drew⟩ | exact keep4 n3 hw8 (by assumption) (by assumption))
        (first
          | (go_at_call 36; (with_reducible refine (HCA.out _ (SC.next s8 (last4 (by assumption)))).mono ?_); rintro e w9 ⟨C9, c9, rfl, hw9, hb9⟩)
          | (go_at_call 38; (with_reducible refine (eqCertificate_any j _ _ _ _ xs _ ((hw68.drew_.below hb9).rd) hw9.rd hm).mono ?_); rintro e w10 ⟨rfl, hb10⟩))
      have hbA := ext_trans (ext_drew (Below.refl w8.heap.size w8)) (ext_trans hb9 hb10)
      have s10 := SC.next s8 hbA
      have x10 := x18.next hbA
      have hw710 := hw78.below hbA
      clear m1 m2 m3 m4 n1 n2 n3 o1 o2 o3
      obtain ⟨m1, m2, m3, m4, _, _⟩ := id s10
      obtain ⟨o1, o2, o3⟩ := id x10
      have hw10 : w.heap.size + 1 < w10.heap.size := s10.2.2.2.2.2
      go_wp2
      go_region_held3 (fun w' => w'.cell? ⟨w7.heap.size, 0, none⟩ = some (.int .i64 k) ∧ w'.cell? ⟨w7.heap.size, 1, none⟩ = some (.slice C7 ys.length c7) ∧ w'.cell? ⟨w.heap.size + 1, 0, none⟩ = some (.int .i64 k) ∧ w'.cell? ⟨w.heap.size + 1, 1, none⟩ = some (.slice B ys.length d) ∧ Below w10.heap.size w10 w')
        (first | exact ⟨o1, o2, m3, m4, (Below.refl _ _).drew⟩ | exact keep4 o3 hw10 (by assumption) (by assumption))
        (first
          | (go_at_call 36; (with_reducible refine (HCB.out _ (SC.next s10 (last4 (by assumption)))).mono ?_); rintro e w11 ⟨C11, c11, rfl, hw11, hb11⟩)
          | (go_at_call 38; (with_reducible refine (eqCertificate_any k _ _ _ _ ys _ ((hw710.drew_.below hb11).rd) hw11.rd hm').mono ?_); rintro e w12 ⟨rfl, hb12⟩))
      have hbB := ext_trans (ext_drew (Below.refl w10.heap.size w10)) (ext_trans hb11 hb12)
      go_wp2
      go_ret
      exact ⟨rfl, ext_trans s10.2.2.2.2.1 hbB⟩
    · have h3 : ¬ (ys.length : Int) ≤ 1048576 - xs.length := h2
      have hl0 : 0 ≤ (1048576 : Int) - xs.length := by omega
      unfold certV
      go_enter Try.func9, Try.ntmps9
      go_wp2_with fail
      refine (szCertificate_any j A xs.length c 1048576 _ hm (by omega) (by omega)).mono ?_
      rw [if_pos h1]
      rintro e w1 ⟨rfl, hb1⟩
      obtain ⟨hc1, hf1⟩ := bcell hb1
      have hy1 := hb1.size
      (try simp at hy1)
      have hz1_0 : w.heap.size < w1.heap.size := by omega
      have hz1_1 : w.heap.size + 1 < w1.heap.size := by omega
      go_wp2_with fail
      refine (szCertificate_any k B ys.length d _ _ hm' (by omega) (by omega)).mono ?_
      rw [if_neg (show ¬ (ys.length : Int) ≤ 1048576 - xs.length by omega)]
      rintro e w2 ⟨rfl, hb2⟩
      go_wp2
      go_ret
      exact ⟨rfl, ext_trans (ext_trans (ext_alloc (ext_alloc (Below.refl _ _) _) _) hb1) hb2⟩
  · unfold certV
    go_enter Try.func9, Try.ntmps9
    go_wp2_with fail
    refine (szCertificate_any j A xs.length c 1048576 _ hm (by omega) (by omega)).mono ?_
    rw [if_neg (show ¬ (xs.length : Int) ≤ 1048576 by omega)]
    rintro e w1 ⟨rfl, hb1⟩
    go_wp2
    go_ret
    exact ⟨rfl, ext_trans (ext_alloc (ext_alloc (Below.refl _ _) _) _) hb1⟩
theorem walk (j : Int) (A : Option Addr) (l c : Nat) (z : List Int) (k : Int) (B : Option Addr) (m d : Nat) (y : List Int) (w : World) (_ : (Lit.int .i64 j).wf = true) (hx : IsRow .i64 w A l c z) (_ : (Lit.int .i64 k).wf = true) (hy : IsRow .i64 w B m d y) :
    Calls Try.prog 9 #[.agg #[.int .i64 j, .slice A l c], .agg #[.int .i64 k, .slice B m d]] w fun e w' => e = .returned (.bool true) ∧ Below w.heap.size w w' := by
  obtain ⟨h1, h2, h3, _⟩ := hx.rd
  obtain ⟨g1, g2, g3, _⟩ := hy.rd
  have := walkG j k A B c d (z.take l) (y.take m) w h3 g3 (by omega) (by omega)
  rw [h1, g1] at this
  exact this

theorem own : ownKnob Try.prog.godebug = none := by kernel_rfl
theorem laidOut : laidOutB Try.prog = true := by kernel_rfl
set_option linter.unusedVariables false in
set_option maxRecDepth 100000 in
theorem lifted (os : Os) (started : os.Started) (H : Type) (enc : TypeId × Value → H) :
    ReturnsInHanded {} Try.checked os 9 .any (Rows.fnExactSameCertificateSpec.pre6 enc Try.prog Try.f9 Rows.fnExactSameCertificateRow.domain false) (Rows.fnExactSameCertificateSpec.post enc Try.prog Try.f9 false true false false) := by
  refine returnsInHanded_of_change (C := Try.checked) own started (by kernel_rfl) Try.func9
    (ChangeSpec.witness6 (enc := enc) (C := Try.checked) false ⟨#[], #[.agg #[.int .i64 0, .slice none 0 0], .agg #[.int .i64 0, .slice none 0 0]], []⟩ 8 (by kernel_rfl) (by kernel_rfl) (by kernel_rfl) (by kernel_rfl)) ?_
  intro W base args ds gs before hval0 hW hcnd _
  have hval : ∀ (j : Nat) t v, Try.f9.params[j]? = some t → args[j]? = some v → Value.okWide Try.prog W .any base t v := hval0
  have hW' := hW
  obtain ⟨p, q, hA0, hV, rfl, hfz, hnd⟩ := hW
  have hA : DataW.TrodAll enc Try.prog W 0 (fun _ => true) true Try.f9.params.toList args.toList ds p := hA0
  rw [Try.params9] at hA hval
  obtain ⟨v0, vs0, d0, ds0, p0, q0, hargs, rfl, rfl, h0, r0⟩ := trodAll_cons hA
  obtain ⟨v1, vs1, d1, ds1, p1, q1, rfl, rfl, rfl, h1, r1⟩ := trodAll_cons r0
  obtain ⟨rfl, rfl, rfl⟩ := trodAll_nil r1
  obtain rfl : args = #[v0, v1] := by cases args; simp_all
  obtain ⟨rfl, rfl⟩ := trodVars_none hV
  have k0 := h0
  have lt0 : ∀ x ∈ p0, x.block < W.heap.size := by obtain ⟨m, hm⟩ := k0; exact DataW.trod_lt m _ _ _ hm
  obtain ⟨u0_0, u0_1, y0_0, y0_1, n0, rfl, _, _, g0_0, g0_1⟩ := Joins.open_agg2 Try.underlying46 (by kernel_rfl) (by kernel_rfl) (hval 0 46 v0 rfl rfl) h0
  obtain ⟨f0_0, ef0_0, _, wf0_0⟩ := DataW.trod_int Try.underlying2 g0_0
  simp only [List.cons.injEq, and_true] at ef0_0
  subst ef0_0
  obtain ⟨Af0_1, lf0_1, cf0_1, zf0_1, ef0_1, wf0_1⟩ : ∃ A l c zs, _ = [Value.slice A l c] ∧ IsRow .i64 W A l c zs := isRow_of Try.underlying39 Try.underlying2 (by kernel_rfl) g0_1
  simp only [List.cons.injEq, and_true] at ef0_1
  subst ef0_1
  have k1 := h1
  have lt1 : ∀ x ∈ p1, x.block < W.heap.size := by obtain ⟨m, hm⟩ := k1; exact DataW.trod_lt m _ _ _ hm
  obtain ⟨u1_0, u1_1, y1_0, y1_1, n1, rfl, _, _, g1_0, g1_1⟩ := Joins.open_agg2 Try.underlying46 (by kernel_rfl) (by kernel_rfl) (hval 1 46 v1 rfl rfl) h1
  obtain ⟨f1_0, ef1_0, _, wf1_0⟩ := DataW.trod_int Try.underlying2 g1_0
  simp only [List.cons.injEq, and_true] at ef1_0
  subst ef1_0
  obtain ⟨Af1_1, lf1_1, cf1_1, zf1_1, ef1_1, wf1_1⟩ : ∃ A l c zs, _ = [Value.slice A l c] ∧ IsRow .i64 W A l c zs := isRow_of Try.underlying39 Try.underlying2 (by kernel_rfl) g1_1
  simp only [List.cons.injEq, and_true] at ef1_1
  subst ef1_1
  clear hA0 hval0
  refine (walk f0_0 Af0_1 lf0_1 cf0_1 zf0_1 f1_0 Af1_1 lf1_1 cf1_1 zf1_1 W wf0_0 wf0_1 wf1_0 wf1_1).mono fun e W' ⟨he, bel⟩ => ?_
  subst he
  exact ⟨_, rfl, _, _, _, [], _, [], hW', trodAll_mk1 (shut_bool Try.underlying4 _), (trodAll_cons_mk (Below.trod laidOut (by kernel_rfl) (of_decide_eq_true (by kernel_rfl)) k0 bel lt0) (trodAll_cons_mk (Below.trod laidOut (by kernel_rfl) (of_decide_eq_true (by kernel_rfl)) k1 bel lt1) trodAll_mk0)), rfl, bel.frame _, fun h => by cases h⟩

theorem over : Rows.fnExactSameCertificateRow.holds Try.pinned (OpenSpec.ofChange Rows.fnExactSameCertificateSpec) :=
  OpenClaim.holds_of_wide 9 Try.f9 rfl rfl rfl rfl rfl rfl rfl ⟨rfl, rfl, rfl, rfl, rfl⟩ rfl rfl rfl rfl rfl (by kernel_rfl) Try.func9 (by kernel_rfl)
    (of_decide_eq_true (by kernel_rfl)) (by unfold Func.isWrapper; first | (rw [if_pos (by decide +kernel)]; kernel_rfl) | (rw [if_neg (by decide +kernel)]; exact ⟨rfl, rfl⟩))
    (fun os started H enc _ => lifted os started H enc)

theorem proved : Rows.FnExactSameCertificateSaid := over
#print axioms proved
end Go.Proofs.Ytgmjodliigkioaa.fnExactSameCertificate
