/- Exact law: the program's DeskText returns what the reference's returns, for all arguments. No condition. -/
import Derived.Test.YtbcmjifhnpjkoaaDeskTextW
import Derived.Test.YtbcmjifhnpjkoaaOpenNd
import Derived.Deep.RegionHeld3
namespace Go.Proofs.Ytbcmjifhnpjkoaa.fnExactDeskText
open Go.ChangeShapes Go.WideShapes Go.ChangeAt Go.RowKit
open Go.ChangeMaps (open_string shut_string)

theorem keep2 {V W W' : World} {a b : Nat} {u1 u2 : Option Value} (ha : a < V.heap.size) (hb : b < V.heap.size)
    (h : W.cell? ⟨a, 0, none⟩ = u1 ∧ W.cell? ⟨b, 0, none⟩ = u2 ∧ Below V.heap.size V W) (k : Below W.heap.size W W') : W'.cell? ⟨a, 0, none⟩ = u1 ∧ W'.cell? ⟨b, 0, none⟩ = u2 ∧ Below V.heap.size V W' := by
  obtain ⟨h1, h2, h5⟩ := h
  have hs := h5.size
  exact ⟨(k.cell (p := ⟨a, 0, none⟩) (by simp; omega)).trans h1, (k.cell (p := ⟨b, 0, none⟩) (by simp; omega)).trans h2, ext_trans h5 k⟩

set_option maxHeartbeats 2000000 in
theorem walkG (A : Option Addr) (c : Nat) (xs : List Nd) (w : World) (hx : RdN w w.heap.size A xs) (hf : ∀ x ∈ xs, x.fits) (hm : xs.length ≤ maxLen) (R : Value)
    (HS : Hid (∀ B d W, RdN W W.heap.size B xs → xs.length + ndTot xs ≤ 1048576 → Calls Try.prog 72 #[.agg #[.slice B xs.length d]] W fun e w' => e = .returned R ∧ Below W.heap.size W w'))
    (HI : Hid (∀ B d W, RdN W W.heap.size B xs → xs.length + ndTot xs ≤ 1048576 → Calls Try.prog 73 #[.agg #[.slice B xs.length d]] W fun e w' => e = .returned R ∧ Below W.heap.size W w'))
    (hR : ∃ b, R = .string b) :
    Calls Try.prog 14 #[.agg #[.slice A xs.length c]] w fun e w' => e = .returned (.bool true) ∧ Below w.heap.size w w' := by
  obtain ⟨rb, rfl⟩ := hR
  have hx2 : ∀ W : World, Below w.heap.size w W → RdN W W.heap.size A xs := fun W hb => (hx.below hb).more hb.size
  have HX := Lib.hid hx2
  have HF := Lib.hid hf
  clear hx2 hx hf
  obtain ⟨tx, htx⟩ : ∃ t : Nat, xs.length + ndTot xs = t := ⟨_, rfl⟩
  have HZA : Hid (∀ W, Below w.heap.size w W → Calls Try.prog 30 #[.agg #[.slice A xs.length c], .int .i64 1048576] W fun e w' => e = .returned (.int .i64 (if (tx : Int) ≤ 1048576 then 1048576 - tx else -1)) ∧ Below W.heap.size W w') := fun W hb => by
    have := szDesk_any A c xs 1048576 W (HX.out W hb) HF.out hm (by omega) (by omega)
    rwa [htx] at this
  by_cases h1 : (tx : Int) ≤ 1048576
  · rw [if_pos h1] at HZA
    have hl0 : 0 ≤ (1048576 : Int) - tx := by omega
    have HT : Hid (xs.length + ndTot xs ≤ 1048576) := by unfold Hid; omega
    have hX : xs.length ≤ 1048576 ∧ ∀ x ∈ xs, x.terms.length ≤ 1048576 := ⟨by omega, fun x hx => by have := nd_le hx; omega⟩
    have CA : ∀ W, Below w.heap.size w W → Calls Try.prog 32 #[.agg #[.slice A xs.length c]] W fun e w' => ∃ D f, e = .returned (.agg #[.slice D xs.length f]) ∧ WrN w' W.heap.size D xs ∧ Below W.heap.size W w' := fun W h => toDesk_any A c xs W (HX.out W h) hX.2 hX.1
    have EA : ∀ W C D f g, RdN W W.heap.size C xs → RdN W W.heap.size D xs → Calls Try.prog 34 #[.agg #[.slice C xs.length f], .agg #[.slice D xs.length g]] W fun e w' => e = .returned (.bool true) ∧ Below W.heap.size W w' := fun W C D f g h k => eqDesk_any C D f g xs W h k (fun x hx => (HF.out x hx).2) hX.1
    have HCA := Lib.hid CA
    have HEA := Lib.hid EA
    clear CA EA hX htx
    go_enter Try.func14, Try.ntmps14
    go_wp2_with fail
    refine (HZA.out _ (ext1 _ _)).mono ?_
    rintro e w1 ⟨rfl, hb1⟩
    have hz1 : w.heap.size < w1.heap.size := by have := hb1.size; simp at this; omega
    have E1 : Below w.heap.size w w1 := ext_trans (ext1 _ _) hb1
    have m1 : w1.cell? ⟨w.heap.size, 0, none⟩ = some (.slice A xs.length c) := (hb1.cell (p := ⟨w.heap.size, 0, none⟩) (by simp)).trans (by rw [cell_one]; rfl)
    go_wp2_with fail
    refine (HCA.out _ E1).mono ?_
    rintro e w2 ⟨C2, c2, rfl, hw2, hb2⟩
    have E2 := ext_trans E1 hb2
    have m2 := (hb2.cell (p := ⟨w.heap.size, 0, none⟩) hz1).trans m1
    have hz2 := Nat.lt_of_lt_of_le hz1 hb2.size
    go_wp2_with fail
    refine (HS.out _ _ _ hw2.rd HT.out).mono ?_
    rintro e w3 ⟨rfl, hb3⟩
    have E3 := ext_trans E2 hb3
    have m3 := (hb3.cell (p := ⟨w.heap.size, 0, none⟩) hz2).trans m2
    have hz3 := Nat.lt_of_lt_of_le hz2 hb3.size
    clear m1 m2
    go_wp2_with fail
    refine (HCA.out _ E3).mono ?_
    rintro e w4 ⟨C4, c4, rfl, hw4, hb4⟩
    have E4 := ext_trans E3 hb4
    have m4 := (hb4.cell (p := ⟨w.heap.size, 0, none⟩) hz3).trans m3
    have hz4 := Nat.lt_of_lt_of_le hz3 hb4.size
    clear m3
    go_wp2_with fail
    have hw5 := hw4.rd.next (ext1 w4 (.cells #[.slice C4 xs.length c4] 52))
    have m5 := ((ext1 w4 (.cells #[.slice C4 xs.length c4] 52)).cell (p := ⟨w.heap.size, 0, none⟩) hz4).trans m4
    have E5 := ext_alloc E4 (.cells #[.slice C4 xs.length c4] 52)
    have o5 : (w4.alloc (.cells #[.slice C4 xs.length c4] 52)).cell? ⟨w4.heap.size, 0, none⟩ = some (.slice C4 xs.length c4) := by rw [cell_one]; rfl
    have hz5 : w.heap.size < (w4.alloc (.cells #[.slice C4 xs.length c4] 52)).heap.size := by simp; omega
    have ho5 : w4.heap.size < (w4.alloc (.cells #[.slice C4 xs.length c4] 52)).heap.size := by simp
    refine (HI.out _ _ _ hw5 HT.out).mono ?_
    rintro e w6 ⟨rfl, hb6⟩
    have n1 := (hb6.cell (p := ⟨w4.heap.size, 0, none⟩) ho5).trans o5
    have n2 := (hb6.cell (p := ⟨w.heap.size, 0, none⟩) hz5).trans m5
    have hw6 := hw5.next hb6
    have E6 := ext_trans E5 hb6
    have hz6 := Nat.lt_of_lt_of_le hz5 hb6.size
    have ho6 := Nat.lt_of_lt_of_le ho5 hb6.size
    clear m4 m5 o5
    go_wp2
    go_region_held3 (fun w' => w'.cell? ⟨w4.heap.size, 0, none⟩ = some (.slice C4 xs.length c4) ∧ w'.cell? ⟨w.heap.size, 0, none⟩ = some (.slice A xs.length c) ∧ Below w6.heap.size w6 w')
      (first | exact ⟨n1, n2, (Below.refl _ _).drew⟩ | exact keep2 ho6 hz6 (by assumption) (by assumption))
      (first
        | (go_at_call 32; (with_reducible refine (HCA.out _ (ext_drew E6)).mono ?_); rintro e w9 ⟨C9, c9, rfl, hw9, hb9⟩)
        | (go_at_call 34; (with_reducible refine (HEA.out _ _ _ _ _ ((hw6.next (ext_drew (Below.refl _ _))).next hb9) hw9.rd).mono ?_); rintro e w10 ⟨rfl, hb10⟩))
    have hbA := ext_trans (ext_drew (Below.refl w6.heap.size w6)) (ext_trans hb9 hb10)
    go_wp2
    go_ret
    exact ⟨rfl, ext_trans E6 hbA⟩
  · rw [if_neg h1] at HZA
    go_enter Try.func14, Try.ntmps14
    go_wp2_with fail
    refine (HZA.out _ (ext1 _ _)).mono ?_
    rintro e w1 ⟨rfl, hb1⟩
    go_wp2
    go_ret
    exact ⟨rfl, ext_trans (ext1 _ _) hb1⟩

theorem walk (A : Option Addr) (l c : Nat) (xs : List Nd) (w : World) (hx : IsNd w A l xs) :
    Calls Try.prog 14 #[.agg #[.slice A l c]] w fun e w' => e = .returned (.bool true) ∧ Below w.heap.size w w' := by
  obtain ⟨rfl, h1, h2, h3⟩ := hx
  exact walkG A c xs w h3 h2 h1 (.string (dtxB xs)) (fun B d W h _ => sDeskText_any B d xs W h h2 h1) (fun B d W h _ => iDeskText_any B d xs W h h2 h1) ⟨_, rfl⟩

theorem own : ownKnob Try.prog.godebug = none := by kernel_rfl
theorem laidOut : laidOutB Try.prog = true := by kernel_rfl
set_option linter.unusedVariables false in
set_option maxRecDepth 100000 in
theorem lifted (os : Os) (started : os.Started) (H : Type) (enc : TypeId × Value → H) :
    ReturnsInHanded {} Try.checked os 14 .any (Rows.fnExactDeskTextSpec.pre6 enc Try.prog Try.f14 Rows.fnExactDeskTextRow.domain false) (Rows.fnExactDeskTextSpec.post enc Try.prog Try.f14 false true false false) := by
  refine returnsInHanded_of_change (C := Try.checked) own started (by kernel_rfl) Try.func14
    (ChangeSpec.witness6 (enc := enc) (C := Try.checked) false ⟨#[], #[.agg #[.slice none 0 0]], []⟩ 8 (by kernel_rfl) (by kernel_rfl) (by kernel_rfl) (by kernel_rfl)) ?_
  intro W base args ds gs before hval0 hW hcnd _
  have hval : ∀ (j : Nat) t v, Try.f14.params[j]? = some t → args[j]? = some v → Value.okWide Try.prog W .any base t v := hval0
  have hW' := hW
  obtain ⟨p, q, hA0, hV, rfl, hfz, hnd⟩ := hW
  have hA : DataW.TrodAll enc Try.prog W 0 (fun _ => true) true Try.f14.params.toList args.toList ds p := hA0
  rw [Try.params14] at hA hval
  obtain ⟨v0, vs0, d0, ds0, p0, q0, hargs, rfl, rfl, h0, r0⟩ := trodAll_cons hA
  obtain ⟨rfl, rfl, rfl⟩ := trodAll_nil r0
  obtain rfl : args = #[v0] := by cases args; simp_all
  obtain ⟨rfl, rfl⟩ := trodVars_none hV
  have k0 := h0
  have lt0 : ∀ x ∈ p0, x.block < W.heap.size := by obtain ⟨m, hm⟩ := k0; exact DataW.trod_lt m _ _ _ hm
  obtain ⟨A0, l0, c0, z0, rfl, w0⟩ := open_desk (hval 0 47 v0 rfl rfl) h0
  clear hA0 hval0
  refine (walk A0 l0 c0 z0 W w0).mono fun e W' ⟨he, bel⟩ => ?_
  subst he
  exact ⟨_, rfl, _, _, _, [], _, [], hW', trodAll_mk1 (shut_bool Try.underlying4 _), (trodAll_cons_mk (Below.trod laidOut (by kernel_rfl) (of_decide_eq_true (by kernel_rfl)) k0 bel lt0) trodAll_mk0), rfl, bel.frame _, fun h => by cases h⟩

theorem over : Rows.fnExactDeskTextRow.holds Try.pinned (OpenSpec.ofChange Rows.fnExactDeskTextSpec) :=
  OpenClaim.holds_of_wide 14 Try.f14 rfl rfl rfl rfl rfl rfl rfl ⟨rfl, rfl, rfl, rfl, rfl⟩ rfl rfl rfl rfl rfl (by kernel_rfl) Try.func14 (by kernel_rfl)
    (of_decide_eq_true (by kernel_rfl)) (by unfold Func.isWrapper; first | (rw [if_pos (by decide +kernel)]; kernel_rfl) | (rw [if_neg (by decide +kernel)]; exact ⟨rfl, rfl⟩))
    (fun os started H enc _ => lifted os started H enc)

theorem proved : Rows.FnExactDeskTextSaid := over
#print axioms proved
end Go.Proofs.Ytbcmjifhnpjkoaa.fnExactDeskText
