/- Exact law: the program's ClaimOf returns what the reference's returns, for all arguments. The table of the powers of ten lies in memory as the program's text lays it. -/
import Derived.Test.YtmgfceiomfiknaaDoorMcH
import Derived.Test.YtmgfceiomfiknaaDoorMcD
namespace Go.Proofs.YtmgfceiomfiknaaDoor.fnExactClaimOf
open Go.ChangeShapes Go.WideShapes Go.ChangeAt Go.RowKit
open Go.ChangeMaps (open_string shut_string)
open Go.Lib

/-- A certificate's copy, with its room. -/
theorem toCertificate_cap (k : Int) (A : Option Addr) (c : Nat) (xs : List Int) (w : World) (hx : Rd (Value.int .i64) w w.heap.size A xs) (hl : xs.length ≤ 1048576) :
    Calls Tryd.prog 8 #[certV k A xs.length c] w fun e w' => ∃ B, e = .returned (certV k B xs.length xs.length) ∧ Wr (Value.int .i64) w' w.heap.size B xs ∧ Below w.heap.size w w' := by
  unfold certV
  have hx3 : ∀ o1 o2 o3 : Obj, Rd (Value.int .i64) (((w.alloc o1).alloc o2).alloc o3) (((w.alloc o1).alloc o2).alloc o3).heap.size A xs := fun o1 o2 o3 => (hx.below (ext_alloc (ext_alloc (ext_alloc (Below.refl _ _) o1) o2) o3)).more (by simp; omega)
  have HX := Lib.hid hx3
  clear hx3
  go_enter Tryd.func8, Tryd.ntmps8
  go_wp2_with fail
  refine (toInt64S_cap A c xs _ (HX.out _ _ _) hl).mono ?_
  rintro e w1 ⟨B, rfl, hw, hb1⟩
  obtain ⟨hc1, hf1⟩ := bcell hb1
  have hy1 := hb1.size
  (try simp at hy1)
  have hz0 : w.heap.size < w1.heap.size := by omega
  have hz1 : w.heap.size + 1 < w1.heap.size := by omega
  have hz2 : w.heap.size + 1 + 1 < w1.heap.size := by omega
  go_wp2
  refine bodyPost_ret (v := certV k B xs.length xs.length) (by simp [results, Tryd.results8, go_sem, hc1]) rfl ⟨B, rfl, ?_, ?_⟩
  · exact (((hw.setLow (by simp) _).setLow (by simp) _).setLow (by simp) _).more (by simp; omega)
  · exact ext_set (ext_set (ext_set (ext_trans (ext_alloc (ext_alloc (ext_alloc (Below.refl _ _) _) _) _) hb1) (by simp; omega) _) (by simp) _) (by simp) _

/-- The argument's block. -/
theorem cell2 {w W W' : World} {v u : Value} (h : W.cell? ⟨w.heap.size, 0, none⟩ = some v ∧ W.cell? ⟨w.heap.size, 1, none⟩ = some u) (hl : w.heap.size < W.heap.size) (hb : Below W.heap.size W W') : W'.cell? ⟨w.heap.size, 0, none⟩ = some v ∧ W'.cell? ⟨w.heap.size, 1, none⟩ = some u :=
  ⟨(hb.cell (p := ⟨w.heap.size, 0, none⟩) hl).trans h.1, (hb.cell (p := ⟨w.heap.size, 1, none⟩) hl).trans h.2⟩

theorem keep4 {V W W' : World} {a b : Nat} {u1 u2 u3 u4 : Option Value} (ha : a < V.heap.size) (hb : b < V.heap.size)
    (h : W.cell? ⟨a, 0, none⟩ = u1 ∧ W.cell? ⟨a, 1, none⟩ = u2 ∧ W.cell? ⟨b, 0, none⟩ = u3 ∧ W.cell? ⟨b, 1, none⟩ = u4 ∧ Below V.heap.size V W) (k : Below W.heap.size W W') :
    W'.cell? ⟨a, 0, none⟩ = u1 ∧ W'.cell? ⟨a, 1, none⟩ = u2 ∧ W'.cell? ⟨b, 0, none⟩ = u3 ∧ W'.cell? ⟨b, 1, none⟩ = u4 ∧ Below V.heap.size V W' := by
  obtain ⟨h1, h2, h3, h4, h5⟩ := h
  have hs := h5.size
  exact ⟨(k.cell (p := ⟨a, 0, none⟩) (by simp; omega)).trans h1, (k.cell (p := ⟨a, 1, none⟩) (by simp; omega)).trans h2, (k.cell (p := ⟨b, 0, none⟩) (by simp; omega)).trans h3, (k.cell (p := ⟨b, 1, none⟩) (by simp; omega)).trans h4, ext_trans h5 k⟩
theorem last4 {p q r s t : Prop} (h : p ∧ q ∧ r ∧ s ∧ t) : t := h.2.2.2.2

set_option maxHeartbeats 2000000 in
theorem walkG (k : Int) (A : Option Addr) (c : Nat) (xs : List Int) (w : World) (hT : Tab10 w) (hx : Rd (Value.int .i64) w w.heap.size A xs) (hm : xs.length ≤ maxLen) :
    Calls Tryd.prog 5 #[certV k A xs.length c] w fun e w' => e = .returned (.bool true) ∧ Below w.heap.size w w' := by
  by_cases h1 : (xs.length : Int) ≤ 1048576
  · have hm1 : xs.length ≤ 1048576 := by omega
    have HT : Hid (∀ W, Below w.heap.size w W → Calls Tryd.prog 8 #[certV k A xs.length c] W fun e w' => ∃ B, e = .returned (certV k B xs.length xs.length) ∧ Wr (Value.int .i64) w' W.heap.size B xs ∧ Below W.heap.size W w') := fun W hb => toCertificate_cap k A c xs W ((hx.below hb).more hb.size) hm1
    have HR : Hid (∀ (W : World) (B : Option Addr), Rd (Value.int .i64) W W.heap.size B xs → RdC W W.heap.size B xs.length xs) := fun W B h => ⟨h, Nat.le_refl _, hm⟩
    have HS : Hid (∀ W B, Rd (Value.int .i64) W W.heap.size B xs → Calls Tryd.prog 16 #[certV k B xs.length xs.length] W fun e w' => e = .returned (.string (clB k xs)) ∧ Below W.heap.size W w') := fun W B h => sClaimOf_any k B xs.length xs W (HR.out W B h) hm
    have HI : Hid (∀ W B, Below w.heap.size w W → Rd (Value.int .i64) W W.heap.size B xs → Calls Tryd.prog 17 #[certV k B xs.length xs.length] W fun e w' => e = .returned (.string (clB k xs)) ∧ Below W.heap.size W w') := fun W B hb h => iClaimOf_any k B xs.length xs W (HR.out W B h) hm (hT.next hb)
    have HQ : Hid (∀ W B C, Rd (Value.int .i64) W W.heap.size B xs → Rd (Value.int .i64) W W.heap.size C xs → Calls Tryd.prog 10 #[certV k B xs.length xs.length, certV k C xs.length xs.length] W fun e w' => e = .returned (.bool true) ∧ Below W.heap.size W w') := fun W B C h h' => eqCertificate_any k B C _ _ xs W h h' hm
    generalize clB k xs = R at *
    clear hx hm hm1 HR hT
    unfold certV at *
    go_enter Tryd.func5, Tryd.ntmps5
    go_wp2_with fail
    refine (szCertificate_any k A xs.length c 1048576 _ (by unfold maxLen; omega) (by omega) (by omega)).mono ?_
    rw [if_pos h1]
    rintro e w1 ⟨rfl, hb1⟩
    have E1 := Lib.hid (ext_trans (ext1 _ _) hb1)
    have c1 := cell2 ⟨by rw [cell_one]; rfl, by rw [cell_one]; rfl⟩ (by simp) hb1
    have l1 : w.heap.size < w1.heap.size := by have := hb1.size; simp at this; omega
    have hl0 : 0 ≤ (1048576 : Int) - xs.length := by omega
    obtain ⟨r0, r1⟩ := c1
    go_wp2_with fail
    refine (HT.out _ E1.out).mono ?_
    rintro e w2 ⟨B2, rfl, hw2, hb2⟩
    have E2 := Lib.hid (ext_trans E1.out hb2)
    have c2 := cell2 ⟨r0, r1⟩ l1 hb2
    have l2 : w.heap.size < w2.heap.size := Nat.lt_of_lt_of_le l1 hb2.size
    clear r0 r1
    go_wp2_with fail
    refine (HS.out _ _ hw2.rd).mono ?_
    rintro e w3 ⟨rfl, hb3⟩
    have E3 := Lib.hid (ext_trans E2.out hb3)
    obtain ⟨r0, r1⟩ := cell2 c2 l2 hb3
    have l3 : w.heap.size < w3.heap.size := Nat.lt_of_lt_of_le l2 hb3.size
    clear c2 hw2 hb2 hb3
    go_wp2_with fail
    refine (HT.out _ E3.out).mono ?_
    rintro e w4 ⟨B4, rfl, hw4, hb4⟩
    have E4 := Lib.hid (ext_alloc (ext_trans E3.out hb4) (.cells #[.int .i64 k, .slice B4 xs.length xs.length] 27))
    have c4 := cell2 (cell2 ⟨r0, r1⟩ l3 hb4) (Nat.lt_of_lt_of_le l3 hb4.size) (ext1 w4 (.cells #[.int .i64 k, .slice B4 xs.length xs.length] 27))
    have l4 : w.heap.size < w4.heap.size := Nat.lt_of_lt_of_le l3 hb4.size
    have hw4 := hw4.below (ext1 w4 (.cells #[.int .i64 k, .slice B4 xs.length xs.length] 27))
    clear r0 r1
    go_wp2_with fail
    refine (HI.out _ _ E4.out hw4.rd).mono ?_
    rintro e w5 ⟨rfl, hb5⟩
    have E5 := Lib.hid (ext_trans E4.out hb5)
    have hz5 : w4.heap.size < w5.heap.size := by have := hb5.size; simp at this; omega
    have hz6 : w.heap.size < w5.heap.size := by omega
    obtain ⟨m1, m2⟩ := cell2 c4 (by simp; omega) hb5
    have n1 : w5.cell? ⟨w4.heap.size, 0, none⟩ = some (.int .i64 k) := (hb5.cell (p := ⟨w4.heap.size, 0, none⟩) (by simp)).trans (by rw [cell_one]; rfl)
    have n2 : w5.cell? ⟨w4.heap.size, 1, none⟩ = some (.slice B4 xs.length xs.length) := (hb5.cell (p := ⟨w4.heap.size, 1, none⟩) (by simp)).trans (by rw [cell_one]; rfl)
    have hw5 := hw4.below hb5
    clear c4 hw4 hb4 hb5
    go_wp2_with fail
    go_region_held3 (fun w' => w'.cell? ⟨w4.heap.size, 0, none⟩ = some (.int .i64 k) ∧ w'.cell? ⟨w4.heap.size, 1, none⟩ = some (.slice B4 xs.length xs.length) ∧ w'.cell? ⟨w.heap.size, 0, none⟩ = some (.int .i64 k) ∧ w'.cell? ⟨w.heap.size, 1, none⟩ = some (.slice A xs.length c) ∧ Below w5.heap.size w5 w')
      (first | exact ⟨n1, n2, m1, m2, (Below.refl _ _).drew⟩ | exact keep4 hz5 hz6 (by assumption) (by assumption))
      (first
        | (go_at_call 8; (with_reducible refine (HT.out _ (ext_trans E5.out (last4 (by assumption)))).mono ?_); rintro e w6 ⟨B6, rfl, hw6, hb6⟩)
        | (go_at_call 10; (with_reducible refine (HQ.out _ _ _ ((hw5.drew_.below hb6).rd) hw6.rd).mono ?_); rintro e w7 ⟨rfl, hb7⟩))
    have hbA := ext_trans (ext_drew (Below.refl w5.heap.size w5)) (ext_trans hb6 hb7)
    clear m1 m2 n1 n2
    go_wp2
    go_ret
    exact ⟨rfl, ext_trans E5.out hbA⟩
  · unfold certV
    go_enter Tryd.func5, Tryd.ntmps5
    go_wp2_with fail
    refine (szCertificate_any k A xs.length c 1048576 _ hm (by omega) (by omega)).mono ?_
    rw [if_neg (show ¬ (xs.length : Int) ≤ 1048576 by omega)]
    rintro e w1 ⟨rfl, hb1⟩
    go_wp2
    go_ret
    exact ⟨rfl, ext_trans (ext1 _ _) hb1⟩
theorem walk (k : Int) (A : Option Addr) (l c : Nat) (z : List Int) (w : World) (hT : Tab10 w) (_ : (Lit.int .i64 k).wf = true) (hx : IsRow .i64 w A l c z) :
    Calls Tryd.prog 5 #[.agg #[.int .i64 k, .slice A l c]] w fun e w' => e = .returned (.bool true) ∧ Below w.heap.size w w' := by
  obtain ⟨h1, h2, h3, _⟩ := hx.rd
  have := walkG k A c (z.take l) w hT h3 (by omega)
  rw [h1] at this
  exact this

theorem own : ownKnob Tryd.prog.godebug = none := by kernel_rfl
theorem laidOut : laidOutB Tryd.prog = true := by kernel_rfl
/-- A world in which the listed variables lie as the row tells. -/
noncomputable def laidWorld (os : Os) : World :=
  let w0 := World.holding Tryd.prog os ⟨#[], #[], []⟩
  let put (h : Array Obj) (g : Nat) (cs : Array Value) : Array Obj := h.modify g fun
    | .cells _ t frozen => .cells cs t frozen
    | o => o
  let h0 := put w0.heap 2 #[.int .u8 0, .int .u8 1, .int .u8 28, .int .u8 2, .int .u8 29, .int .u8 14, .int .u8 24, .int .u8 3, .int .u8 30, .int .u8 22, .int .u8 20, .int .u8 15, .int .u8 25, .int .u8 17, .int .u8 4, .int .u8 8, .int .u8 31, .int .u8 27, .int .u8 13, .int .u8 23, .int .u8 21, .int .u8 19, .int .u8 16, .int .u8 7, .int .u8 26, .int .u8 12, .int .u8 18, .int .u8 6, .int .u8 11, .int .u8 5, .int .u8 10, .int .u8 9]
  let h1 := put h0 3 #[.int .u8 0, .int .u8 1, .int .u8 56, .int .u8 2, .int .u8 57, .int .u8 49, .int .u8 28, .int .u8 3, .int .u8 61, .int .u8 58, .int .u8 42, .int .u8 50, .int .u8 38, .int .u8 29, .int .u8 17, .int .u8 4, .int .u8 62, .int .u8 47, .int .u8 59, .int .u8 36, .int .u8 45, .int .u8 43, .int .u8 51, .int .u8 22, .int .u8 53, .int .u8 39, .int .u8 33, .int .u8 30, .int .u8 24, .int .u8 18, .int .u8 12, .int .u8 5, .int .u8 63, .int .u8 55, .int .u8 48, .int .u8 27, .int .u8 60, .int .u8 41, .int .u8 37, .int .u8 16, .int .u8 46, .int .u8 35, .int .u8 44, .int .u8 21, .int .u8 52, .int .u8 32, .int .u8 23, .int .u8 11, .int .u8 54, .int .u8 26, .int .u8 40, .int .u8 15, .int .u8 34, .int .u8 20, .int .u8 31, .int .u8 10, .int .u8 25, .int .u8 14, .int .u8 19, .int .u8 9, .int .u8 13, .int .u8 8, .int .u8 7, .int .u8 6]
  let h2 := put h1 0 #[.int .u64 1, .int .u64 10, .int .u64 100, .int .u64 1000, .int .u64 10000, .int .u64 100000, .int .u64 1000000, .int .u64 10000000, .int .u64 100000000, .int .u64 1000000000, .int .u64 10000000000, .int .u64 100000000000, .int .u64 1000000000000, .int .u64 10000000000000, .int .u64 100000000000000, .int .u64 1000000000000000, .int .u64 10000000000000000, .int .u64 100000000000000000, .int .u64 1000000000000000000, .int .u64 10000000000000000000]
  { w0 with heap := h2 }
theorem laidWorld_met (os : Os) (args : Array Value) : laidMetH Tryd.prog Rows.fnExactClaimOfRow.laid ((laidWorld os).forCall (fun _ _ => 0) ⟨#[], args, []⟩).memory :=
  (LaidIn.of_run [2, 3, 0] 8 (by kernel_rfl) (by kernel_rfl) (by kernel_rfl) (by kernel_rfl) : LaidIn Tryd.prog ((laidWorld os).forCall (fun _ _ => 0) ⟨#[], args, []⟩).memory Rows.fnExactClaimOfRow.laid [2, 3, 0]).met
set_option linter.unusedVariables false in
set_option maxRecDepth 100000 in
theorem lifted (os : Os) (started : os.Started) (H : Type) (enc : TypeId × Value → H) :
    ReturnsInHanded {} Tryd.checked os 5 .any (fun w args => (Rows.fnExactClaimOfSpec.pre enc Tryd.prog Tryd.f5 [] false w args ∧ laidMetH Tryd.prog Rows.fnExactClaimOfRow.laid w) ∧ sizedMet enc Tryd.prog Tryd.f5 (OpenSpec.ofChange Rows.fnExactClaimOfSpec) false w args) (Rows.fnExactClaimOfSpec.post enc Tryd.prog Tryd.f5 false true false false) := by
  refine returnsInHanded_of_change_and (C := Tryd.checked) (X := fun w _ => laidMetH Tryd.prog Rows.fnExactClaimOfRow.laid w) (fun _ _ _ hh h => h.of_heap hh) own started (by kernel_rfl) Tryd.func5
    (ChangeSpec.witness_at (enc := enc) (C := Tryd.checked) (os := os) (X := fun w _ => laidMetH Tryd.prog Rows.fnExactClaimOfRow.laid w) false (laidWorld os) #[.agg #[.int .i64 0, .slice none 0 0]] 8 rfl (by kernel_rfl) (by kernel_rfl) (by kernel_rfl) (by kernel_rfl) (by kernel_rfl) (laidWorld_met os _)) ?_
  intro W base args ds gs before hval0 hW _ _ hL _
  have hT : Lib.TabIs Tryd.prog W "internal/strconv.uint64pow10" .u64 Lib.pow10Tab := tab_of (laidMet.tail (laidMet.tail hL))
  have hval : ∀ (j : Nat) t v, Tryd.f5.params[j]? = some t → args[j]? = some v → Value.okWide Tryd.prog W .any base t v := hval0
  have hW' := hW
  obtain ⟨p, q, hA0, hV, rfl, hfz, hnd⟩ := hW
  have hA : DataW.TrodAll enc Tryd.prog W 0 (fun _ => true) true Tryd.f5.params.toList args.toList ds p := hA0
  rw [Tryd.params5] at hA hval
  obtain ⟨v0, vs0, d0, ds0, p0, q0, hargs, rfl, rfl, h0, r0⟩ := trodAll_cons hA
  obtain ⟨rfl, rfl, rfl⟩ := trodAll_nil r0
  obtain rfl : args = #[v0] := by cases args; simp_all
  obtain ⟨rfl, rfl⟩ := trodVars_none hV
  have k0 := h0
  have lt0 : ∀ x ∈ p0, x.block < W.heap.size := by obtain ⟨m, hm⟩ := k0; exact DataW.trod_lt m _ _ _ hm
  obtain ⟨u0_0, u0_1, y0_0, y0_1, n0, rfl, _, _, g0_0, g0_1⟩ := Joins.open_agg2 Tryd.underlying24 (by kernel_rfl) (by kernel_rfl) (hval 0 24 v0 rfl rfl) h0
  obtain ⟨f0_0, ef0_0, _, wf0_0⟩ := DataW.trod_int Tryd.underlying2 g0_0
  simp only [List.cons.injEq, and_true] at ef0_0
  subst ef0_0
  obtain ⟨Af0_1, lf0_1, cf0_1, zf0_1, ef0_1, wf0_1⟩ : ∃ A l c zs, _ = [Value.slice A l c] ∧ IsRow .i64 W A l c zs := isRow_of Tryd.underlying22 Tryd.underlying2 (by kernel_rfl) g0_1
  simp only [List.cons.injEq, and_true] at ef0_1
  subst ef0_1
  clear hA0 hval0
  refine (walk f0_0 Af0_1 lf0_1 cf0_1 zf0_1 W hT wf0_0 wf0_1).mono fun e W' ⟨he, bel⟩ => ?_
  subst he
  exact ⟨_, rfl, _, _, _, [], _, [], hW', trodAll_mk1 (shut_bool Tryd.underlying4 _), (trodAll_cons_mk (Below.trod laidOut (by kernel_rfl) (of_decide_eq_true (by kernel_rfl)) k0 bel lt0) trodAll_mk0), rfl, bel.frame _, fun h => by cases h⟩

theorem jPlace : (Rows.fnExactClaimOfRow.inPlace == Tryd.prog.inPlace 5) = true := by kernel_rfl
theorem jFollow : (Rows.fnExactClaimOfRow.unfollowed == Tryd.prog.unfollowed 5) = true := by kernel_rfl
theorem jRecurse : (Rows.fnExactClaimOfRow.recurses == Tryd.prog.recurses 5) = true := by kernel_rfl
theorem jNamed : (Rows.fnExactClaimOfRow.named == Tryd.prog.varsNamed 5) = true := by kernel_rfl
theorem joined : joinedFacts Tryd.prog 5 Tryd.f5 Rows.fnExactClaimOfSpec Rows.fnExactClaimOfRow = true :=
  joined_of (by kernel_rfl) (by kernel_rfl) (by kernel_rfl) (by kernel_rfl) (by kernel_rfl) jPlace jFollow jRecurse jNamed (by kernel_rfl) (by kernel_rfl) (by kernel_rfl) (by kernel_rfl) (by kernel_rfl) (by kernel_rfl) (by kernel_rfl) (by kernel_rfl) (by kernel_rfl) rfl rfl rfl rfl rfl rfl (by kernel_rfl) (by kernel_rfl) (by kernel_rfl)
theorem over : Rows.fnExactClaimOfRow.holds Tryd.pinned (OpenSpec.ofChange Rows.fnExactClaimOfSpec) :=
  OpenClaim.holds_of_wide 5 Tryd.f5 rfl rfl rfl rfl rfl rfl rfl ⟨rfl, rfl, rfl, rfl, rfl⟩ rfl rfl rfl rfl rfl (by kernel_rfl) Tryd.func5 joined
    (of_decide_eq_true (by kernel_rfl)) (by unfold Func.isWrapper; first | (rw [if_pos (by decide +kernel)]; kernel_rfl) | (rw [if_neg (by decide +kernel)]; exact ⟨rfl, rfl⟩))
    (fun os started H enc _ => lifted os started H enc)

theorem fname : Tryd.prog.funcNamed "loop.example/g01007/laws.FnExactClaimOf" = some 5 := by kernel_rfl
theorem stand24 : Tryd.prog.wantsStandIn 24 = false := by kernel_rfl
theorem proved : Rows.FnExactClaimOfCardSaid :=
  Claim7.holds_tied_plain_at .later [] [.data, .data, .data] true (true, "3adebeaeeddc3798a75c13f9f047d5a1c03f6293f742c9706d7304899e8e808e") false over (fun _ h => by cases h) (by kernel_rfl) (fun _ h => by cases h) fnExactClaimOf_row_tie rfl ⟨rfl, rfl⟩ (by kernel_rfl) rfl
    (fun f fn hf hfn => by
      obtain rfl : f = 5 := (Option.some.inj (fname.symm.trans hf)).symm
      obtain rfl : fn = Tryd.f5 := (Option.some.inj (Tryd.func5.symm.trans hfn)).symm
      exact ⟨by kernel_rfl, fun j t ht => by
        rw [Tryd.params5] at ht
        rcases j with _ | j
        · obtain rfl : t = 24 := by simpa using ht.symm
          exact stand24
        simp at ht⟩)
    (by kernel_rfl)
#print axioms proved
end Go.Proofs.YtmgfceiomfiknaaDoor.fnExactClaimOf
