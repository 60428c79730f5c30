/- Exact law: the program's NotesText returns what the reference's returns, for all arguments. The table of the powers of ten lies in memory as the program's text lays it. -/
import Derived.Test.YtmgfceiomfiknaaDoorTextNI
import Derived.Test.YtmgfceiomfiknaaDoorTextNS
import Derived.Test.YtmgfceiomfiknaaDoorOpenNt
import Derived.Test.YtmgfceiomfiknaaDoorDoor
namespace Go.Proofs.YtmgfceiomfiknaaDoor.fnExactNotesText
open Go.ChangeShapes Go.WideShapes Go.ChangeAt Go.RowKit
open Go.ChangeMaps (open_string shut_string)
open Go.Lib

set_option maxHeartbeats 1000000 in
theorem walkG (A : Option Addr) (c : Nat) (xs : List Nt) (w : World) (hT : Tab10 w) (hx : RdNt w w.heap.size A xs) (hf : ∀ x ∈ xs, x.fits) (hm : xs.length ≤ maxLen) :
    Calls Tryd.prog 4 #[.slice A xs.length c] w fun e w' => e = .returned (.bool true) ∧ Below w.heap.size w w' := by
  have hx2 : ∀ W : World, Below w.heap.size w W → RdNt W W.heap.size A xs := fun W hb => (hx.below hb).more hb.size
  have HX := Lib.hid hx2
  have HTT : Hid (∀ W : World, Below w.heap.size w W → Tab10 W) := fun W hb => hT.next hb
  clear hT
  have HF := Lib.hid hf
  clear hx2 hx hf
  obtain ⟨tx, htx⟩ : ∃ t : Nat, xs.length + ntTot xs = t := ⟨_, rfl⟩
  have HZA : Hid (∀ W, Below w.heap.size w W → Calls Tryd.prog 11 #[.slice A xs.length c, .int .i64 1048576] W fun e w' => e = .returned (.int .i64 (if (tx : Int) ≤ 1048576 then 1048576 - tx else -1)) ∧ Below W.heap.size W w') := fun W hb => by
    have := szNoteS_any A c xs 1048576 W (HX.out W hb) HF.out hm (by omega) (by omega)
    rwa [htx] at this
  have B0 := Lib.hid (Below.refl w.heap.size w)
  by_cases h1 : (tx : Int) ≤ 1048576
  · rw [if_pos h1] at HZA
    have hl0 : 0 ≤ (1048576 : Int) - tx := by omega
    have hX : xs.length ≤ 1048576 ∧ ∀ x ∈ xs, x.terms.length ≤ 1048576 := ⟨by omega, fun x hx => by have := nt_le hx; omega⟩
    have HCA : Hid (∀ W, Below w.heap.size w W → Calls Tryd.prog 13 #[.slice A xs.length c] W fun e w' => ∃ D f, e = .returned (.slice D xs.length f) ∧ WrNt w' W.heap.size D xs ∧ Below W.heap.size W w') := fun W h => toNoteS_any A c xs W (HX.out W h) hX.2 hX.1
    have HEA : Hid (∀ W C D f g, RdNt W W.heap.size C xs → RdNt W W.heap.size D xs → Calls Tryd.prog 15 #[.slice C xs.length f, .slice D xs.length g] W fun e w' => e = .returned (.bool true) ∧ Below W.heap.size W w') := fun W C D f g h k => eqNoteS_any C D f g xs W h k (fun x hx => (HF.out x hx).2) hX.1
    have HS : Hid (∀ W C f, RdNt W W.heap.size C xs → Calls Tryd.prog 12 #[.slice C xs.length f] W fun e w' => e = .returned (.string (ntsB xs)) ∧ Below W.heap.size W w') := fun W C f h => sNotesText_any C f xs W h HF.out hm
    have HI : Hid (∀ W C f, Below w.heap.size w W → RdNt W W.heap.size C xs → Calls Tryd.prog 14 #[.slice C xs.length f] W fun e w' => e = .returned (.string (ntsB xs)) ∧ Below W.heap.size W w') := fun W C f hb h => iNotesText_any C f xs W h HF.out hm (HTT.out W hb)
    generalize ntsB xs = R at *
    clear hX htx
    go_enter Tryd.func4, Tryd.ntmps4
    go_wp2_with fail
    refine (HZA.out _ B0.out).mono ?_
    rintro e w1 ⟨rfl, E1⟩
    go_wp2_with fail
    refine (HCA.out _ E1).mono ?_
    rintro e w3 ⟨C3, c3, rfl, hw3, hb3⟩
    have E3 := ext_trans E1 hb3
    go_wp2_with fail
    refine (HS.out _ _ _ hw3.rd).mono ?_
    rintro e w5 ⟨rfl, hb5⟩
    have E5 := ext_trans E3 hb5
    go_wp2_with fail
    refine (HCA.out _ E5).mono ?_
    rintro e w6 ⟨C6, c6, rfl, hw6, hb6⟩
    have E6 := ext_trans E5 hb6
    go_wp2_with fail
    refine (HI.out _ _ _ E6 hw6.rd).mono ?_
    rintro e w8 ⟨rfl, hb8⟩
    have E8 := ext_trans E6 hb8
    have r6' := hw6.rd.next hb8
    go_wp2_with fail
    refine (HCA.out _ E8).mono ?_
    rintro e w9 ⟨C9, c9, rfl, hw9, hb9⟩
    have E9 := ext_trans E8 hb9
    go_wp2_with fail
    refine (HEA.out _ _ _ _ _ (r6'.next hb9) hw9.rd).mono ?_
    rintro e w10 ⟨rfl, hb10⟩
    go_wp2
    go_ret
    exact ⟨rfl, ext_trans E9 hb10⟩
  · rw [if_neg h1] at HZA
    go_enter Tryd.func4, Tryd.ntmps4
    go_wp2_with fail
    refine (HZA.out _ B0.out).mono ?_
    rintro e w1 ⟨rfl, hb1⟩
    go_wp2
    go_ret
    exact ⟨rfl, hb1⟩

theorem walk (A : Option Addr) (l c : Nat) (xs : List Nt) (w : World) (hT : Tab10 w) (hx : IsNt w A l xs) :
    Calls Tryd.prog 4 #[.slice A l c] w fun e w' => e = .returned (.bool true) ∧ Below w.heap.size w w' := by
  obtain ⟨rfl, h1, h2, h3⟩ := hx
  exact walkG A c xs w hT h3 h2 h1

theorem own : ownKnob Tryd.prog.godebug = none := by kernel_rfl
theorem laidOut : laidOutB Tryd.prog = true := by kernel_rfl
/-- A world in which the listed variables lie as the row tells. -/
noncomputable def laidWorld (os : Os) : World :=
  let w0 := World.holding Tryd.prog os ⟨#[], #[], []⟩
  let put (h : Array Obj) (g : Nat) (cs : Array Value) : Array Obj := h.modify g fun
    | .cells _ t frozen => .cells cs t frozen
    | o => o
  let h0 := put w0.heap 2 #[.int .u8 0, .int .u8 1, .int .u8 28, .int .u8 2, .int .u8 29, .int .u8 14, .int .u8 24, .int .u8 3, .int .u8 30, .int .u8 22, .int .u8 20, .int .u8 15, .int .u8 25, .int .u8 17, .int .u8 4, .int .u8 8, .int .u8 31, .int .u8 27, .int .u8 13, .int .u8 23, .int .u8 21, .int .u8 19, .int .u8 16, .int .u8 7, .int .u8 26, .int .u8 12, .int .u8 18, .int .u8 6, .int .u8 11, .int .u8 5, .int .u8 10, .int .u8 9]
  let h1 := put h0 3 #[.int .u8 0, .int .u8 1, .int .u8 56, .int .u8 2, .int .u8 57, .int .u8 49, .int .u8 28, .int .u8 3, .int .u8 61, .int .u8 58, .int .u8 42, .int .u8 50, .int .u8 38, .int .u8 29, .int .u8 17, .int .u8 4, .int .u8 62, .int .u8 47, .int .u8 59, .int .u8 36, .int .u8 45, .int .u8 43, .int .u8 51, .int .u8 22, .int .u8 53, .int .u8 39, .int .u8 33, .int .u8 30, .int .u8 24, .int .u8 18, .int .u8 12, .int .u8 5, .int .u8 63, .int .u8 55, .int .u8 48, .int .u8 27, .int .u8 60, .int .u8 41, .int .u8 37, .int .u8 16, .int .u8 46, .int .u8 35, .int .u8 44, .int .u8 21, .int .u8 52, .int .u8 32, .int .u8 23, .int .u8 11, .int .u8 54, .int .u8 26, .int .u8 40, .int .u8 15, .int .u8 34, .int .u8 20, .int .u8 31, .int .u8 10, .int .u8 25, .int .u8 14, .int .u8 19, .int .u8 9, .int .u8 13, .int .u8 8, .int .u8 7, .int .u8 6]
  let h2 := put h1 0 #[.int .u64 1, .int .u64 10, .int .u64 100, .int .u64 1000, .int .u64 10000, .int .u64 100000, .int .u64 1000000, .int .u64 10000000, .int .u64 100000000, .int .u64 1000000000, .int .u64 10000000000, .int .u64 100000000000, .int .u64 1000000000000, .int .u64 10000000000000, .int .u64 100000000000000, .int .u64 1000000000000000, .int .u64 10000000000000000, .int .u64 100000000000000000, .int .u64 1000000000000000000, .int .u64 10000000000000000000]
  { w0 with heap := h2 }
theorem laidWorld_met (os : Os) (args : Array Value) : laidMetH Tryd.prog Rows.fnExactNotesTextRow.laid ((laidWorld os).forCall (fun _ _ => 0) ⟨#[], args, []⟩).memory :=
  (LaidIn.of_run [2, 3, 0] 8 (by kernel_rfl) (by kernel_rfl) (by kernel_rfl) (by kernel_rfl) : LaidIn Tryd.prog ((laidWorld os).forCall (fun _ _ => 0) ⟨#[], args, []⟩).memory Rows.fnExactNotesTextRow.laid [2, 3, 0]).met
set_option linter.unusedVariables false in
set_option maxRecDepth 100000 in
theorem lifted (os : Os) (started : os.Started) (H : Type) (enc : TypeId × Value → H) :
    ReturnsInHanded {} Tryd.checked os 4 .any (fun w args => (Rows.fnExactNotesTextSpec.pre enc Tryd.prog Tryd.f4 [] false w args ∧ laidMetH Tryd.prog Rows.fnExactNotesTextRow.laid w) ∧ sizedMet enc Tryd.prog Tryd.f4 (OpenSpec.ofChange Rows.fnExactNotesTextSpec) false w args) (Rows.fnExactNotesTextSpec.post enc Tryd.prog Tryd.f4 false true false false) := by
  refine returnsInHanded_of_change_and (C := Tryd.checked) (X := fun w _ => laidMetH Tryd.prog Rows.fnExactNotesTextRow.laid w) (fun _ _ _ hh h => h.of_heap hh) own started (by kernel_rfl) Tryd.func4
    (ChangeSpec.witness_at (enc := enc) (C := Tryd.checked) (os := os) (X := fun w _ => laidMetH Tryd.prog Rows.fnExactNotesTextRow.laid w) false (laidWorld os) #[.slice none 0 0] 8 rfl (by kernel_rfl) (by kernel_rfl) (by kernel_rfl) (by kernel_rfl) (by kernel_rfl) (laidWorld_met os _)) ?_
  intro W base args ds gs before hval0 hW _ _ hL _
  have hT : Lib.TabIs Tryd.prog W "internal/strconv.uint64pow10" .u64 Lib.pow10Tab := tab_of (laidMet.tail (laidMet.tail hL))
  have hval : ∀ (j : Nat) t v, Tryd.f4.params[j]? = some t → args[j]? = some v → Value.okWide Tryd.prog W .any base t v := hval0
  have hW' := hW
  obtain ⟨p, q, hA0, hV, rfl, hfz, hnd⟩ := hW
  have hA : DataW.TrodAll enc Tryd.prog W 0 (fun _ => true) true Tryd.f4.params.toList args.toList ds p := hA0
  rw [Tryd.params4] at hA hval
  obtain ⟨v0, vs0, d0, ds0, p0, q0, hargs, rfl, rfl, h0, r0⟩ := trodAll_cons hA
  obtain ⟨rfl, rfl, rfl⟩ := trodAll_nil r0
  obtain rfl : args = #[v0] := by cases args; simp_all
  obtain ⟨rfl, rfl⟩ := trodVars_none hV
  have k0 := h0
  have lt0 : ∀ x ∈ p0, x.block < W.heap.size := by obtain ⟨m, hm⟩ := k0; exact DataW.trod_lt m _ _ _ hm
  obtain ⟨A0, l0, c0, rfl⟩ := okWide_slice Tryd.underlying31 (hval 0 31 v0 rfl rfl)
  obtain ⟨z0, w0⟩ : ∃ zs, IsNt W A0 l0 zs := isNt_arg h0
  clear hA0 hval0
  refine (walk A0 l0 c0 z0 W hT w0).mono fun e W' ⟨he, bel⟩ => ?_
  subst he
  exact ⟨_, rfl, _, _, _, [], _, [], hW', trodAll_mk1 (shut_bool Tryd.underlying4 _), (trodAll_cons_mk (Below.trod laidOut (by kernel_rfl) (of_decide_eq_true (by kernel_rfl)) k0 bel lt0) trodAll_mk0), rfl, bel.frame _, fun h => by cases h⟩

theorem jPlace : (Rows.fnExactNotesTextRow.inPlace == Tryd.prog.inPlace 4) = true := by kernel_rfl
theorem jFollow : (Rows.fnExactNotesTextRow.unfollowed == Tryd.prog.unfollowed 4) = true := by kernel_rfl
theorem jRecurse : (Rows.fnExactNotesTextRow.recurses == Tryd.prog.recurses 4) = true := by kernel_rfl
theorem jNamed : (Rows.fnExactNotesTextRow.named == Tryd.prog.varsNamed 4) = true := by kernel_rfl
theorem joined : joinedFacts Tryd.prog 4 Tryd.f4 Rows.fnExactNotesTextSpec Rows.fnExactNotesTextRow = true :=
  joined_of (by kernel_rfl) (by kernel_rfl) (by kernel_rfl) (by kernel_rfl) (by kernel_rfl) jPlace jFollow jRecurse jNamed (by kernel_rfl) (by kernel_rfl) (by kernel_rfl) (by kernel_rfl) (by kernel_rfl) (by kernel_rfl) (by kernel_rfl) (by kernel_rfl) (by kernel_rfl) rfl rfl rfl rfl rfl rfl (by kernel_rfl) (by kernel_rfl) (by kernel_rfl)
theorem over : Rows.fnExactNotesTextRow.holds Tryd.pinned (OpenSpec.ofChange Rows.fnExactNotesTextSpec) :=
  OpenClaim.holds_of_wide 4 Tryd.f4 rfl rfl rfl rfl rfl rfl rfl ⟨rfl, rfl, rfl, rfl, rfl⟩ rfl rfl rfl rfl rfl (by kernel_rfl) Tryd.func4 joined
    (of_decide_eq_true (by kernel_rfl)) (by unfold Func.isWrapper; first | (rw [if_pos (by decide +kernel)]; kernel_rfl) | (rw [if_neg (by decide +kernel)]; exact ⟨rfl, rfl⟩))
    (fun os started H enc _ => lifted os started H enc)

theorem fname : Tryd.prog.funcNamed "loop.example/g01007/laws.FnExactNotesText" = some 4 := by kernel_rfl
theorem stand31 : Tryd.prog.wantsStandIn 31 = false := by kernel_rfl
theorem proved : Rows.FnExactNotesTextCardSaid :=
  Claim7.holds_tied_plain_at .later [] [.data, .data, .data] true (true, "3adebeaeeddc3798a75c13f9f047d5a1c03f6293f742c9706d7304899e8e808e") false over (fun _ h => by cases h) (by kernel_rfl) (fun _ h => by cases h) fnExactNotesText_row_tie rfl ⟨rfl, rfl⟩ (by kernel_rfl) rfl
    (fun f fn hf hfn => by
      obtain rfl : f = 4 := (Option.some.inj (fname.symm.trans hf)).symm
      obtain rfl : fn = Tryd.f4 := (Option.some.inj (Tryd.func4.symm.trans hfn)).symm
      exact ⟨by kernel_rfl, fun j t ht => by
        rw [Tryd.params4] at ht
        rcases j with _ | j
        · obtain rfl : t = 31 := by simpa using ht.symm
          exact stand31
        simp at ht⟩)
    (by kernel_rfl)
#print axioms proved
end Go.Proofs.YtmgfceiomfiknaaDoor.fnExactNotesText
