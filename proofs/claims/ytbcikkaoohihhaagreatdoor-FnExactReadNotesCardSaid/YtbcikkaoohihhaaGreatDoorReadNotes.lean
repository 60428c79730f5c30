/- Exact law: the program's ReadNotes returns what the reference's returns, for all arguments. The listed variables lie in memory as the program's text lays them. -/
import Derived.Test.YtbcikkaoohihhaaGreatDoorRnS
import Derived.Test.YtbcikkaoohihhaaGreatDoorMarkNtW
import Derived.Test.YtbcikkaoohihhaaGreatDoorNlB
import Derived.Test.YtbcikkaoohihhaaGreatDoorDoorV
namespace Go.Proofs.YtbcikkaoohihhaaGreatDoor.fnExactReadNotes
open Go.ChangeShapes Go.WideShapes Go.ChangeAt Go.RowKit Go.Sort
open Go.ChangeMaps (open_string shut_string)
open Go.Lib

theorem rnX_bd (s : ByteArray) : (rnX s).length ≤ 40 ∧ ∀ x ∈ rnX s, x.name.size ≤ 12 ∧ x.terms.length ≤ 60 := by
  cases h : rnO s with
  | none => rw [(rn_none_ h).1]; exact ⟨by simp, fun x hx => by simp at hx⟩
  | some L =>
    rw [(rn_some_ h).1]
    obtain ⟨h1, _⟩ := rnO_iff.1 h
    refine ⟨?_, fun x hx => ?_⟩
    · have h2 := h1
      unfold validNt at h2
      rw [Bool.and_eq_true, decide_eq_true_iff] at h2
      exact h2.2
    · have hx1 := valid_each h1 x hx
      have hn := ntOk_name hx1
      unfold nameB at hn
      simp only [Bool.and_eq_true, decide_eq_true_iff] at hn
      refine ⟨hn.2.1, ?_⟩
      unfold ntOk at hx1
      rw [Bool.and_eq_true] at hx1
      obtain ⟨_, hk⟩ := hx1
      split at hk
      · simp only [Bool.and_eq_true, Nt.zT, decide_eq_true_iff] at hk
        omega
      · split at hk
        · rw [Bool.and_eq_true] at hk
          exact (termsBBd hk.1).1
        · split at hk
          · simp only [Bool.and_eq_true, Nt.zT, decide_eq_true_iff] at hk
            omega
          · cases hk

set_option maxRecDepth 100000 in
set_option maxHeartbeats 2000000 in
theorem walkG (s : ByteArray) (w : World) (hV : Vars w) (hs1 : (s.size : Int) ≤ 1048576) :
    Calls Tryz.prog 3 #[.string s] w fun e w' => e = .returned (.bool true) ∧ Below w.heap.size w w' := by
  have hs2 : decide (1048576 < (s.size : Int)) = false := decide_eq_false (by omega)
  obtain ⟨hy1, hy2⟩ := rnX_bd s
  have hposy : posN (rnX s) (rnX s).length ≤ 100000000 := by have := posN_bd (rnX s) (fun x hx => by have := hy2 x hx; omega) _ (Nat.le_refl _); omega
  have HI : Hid (∀ W, Below w.heap.size w W → Calls Tryz.prog 6 #[.string s] W (RetNtK W (rnX s) (rnK s))) := fun W hb => iReadNotes_any s W (by omega) (hV.next hb)
  have HS : Hid (∀ W, Calls Tryz.prog 5 #[.string s] W (RetNtK W (rnX s) (rnK s))) := fun W => sReadNotes_any s W (by omega)
  generalize rnX s = ys at *
  generalize rnK s = kc at *
  unfold RetNtK at HI HS
  have HEQY : Hid (∀ W C D f g, RdNt W W.heap.size C ys → RdNt W W.heap.size D ys → Calls Tryz.prog 7 #[.slice C ys.length f, .slice D ys.length g] W fun e w' => e = .returned (.bool true) ∧ Below W.heap.size W w') := fun W C D f g h k => eqNoteS_any C D f g ys W h k (fun x hx => by have := hy2 x hx; unfold maxLen; omega) (by omega)
  clear hs1 hy2 hV
  go_enter Tryz.func3, Tryz.ntmps3
  go_wp2_with fail
  refine (HS.out _).mono ?_
  rintro e w3 ⟨A0, c0, rfl, hw0, hb⟩
  have E := Lib.hid hb
  have R3 := Lib.hid hw0.rd
  clear hb hw0 HS
  go_wp2_with fail
  refine (HI.out _ E.out).mono ?_
  rintro e w5 ⟨A1, c1, rfl, hw5, hb5⟩
  have D : Hid (Nl w w3.heap.size w3.heap.size w5.heap.size A0 A1 ys ys w5) := ⟨ext_trans E.out hb5, R3.out.below hb5, hw5, E.out.size, Nat.le_refl _, hb5.size⟩
  clear hw5 hb5 E R3
  go_wp2_with fail
  refine (HEQY.out _ _ _ _ _ D.out.rg D.out.rr).mono ?_
  rintro e w10 ⟨rfl, hb⟩
  replace D := Lib.hid (D.out.next hb)
  clear hb
  go_wp2_with fail
  refine (markNoteS_any A1 c1 ys w3.heap.size w5.heap.size 1 w10 D.out.g hposy (by omega) (by omega)).mono ?_
  rintro e w11 ⟨rfl, hg, hb, hs, _⟩
  replace D := Lib.hid (D.out.remark hg hb hs)
  clear hg hb hs
  go_wp2_with fail
  refine (heldNoteS_any A1 c1 ys 1 w11 D.out.rg hposy (by omega) (by omega)).mono ?_
  rintro e w12 ⟨rfl, hb⟩
  replace D := Lib.hid (D.out.next hb)
  clear hb
  have hn0 : ¬ ((1 : Int) + (posN ys ys.length : Int) < 0) := by omega
  go_wp2_with fail
  refine (HI.out _ D.out.a).mono ?_
  rintro e w14 ⟨A14, c14, rfl, hw14, hb⟩
  replace D := Lib.hid (D.out.next hb)
  clear hb HI
  go_wp2_with fail
  refine (HEQY.out _ _ _ _ _ (hw14.rd.more hw14.1) D.out.rr).mono ?_
  rintro e w15 ⟨rfl, hb⟩
  replace D := Lib.hid (D.out.next hb)
  clear hb hw14 HEQY
  go_wp2_with fail
  refine (heldNoteS_any A1 c1 ys 1 w15 D.out.rg hposy (by omega) (by omega)).mono ?_
  rintro e w16 ⟨rfl, hb⟩
  replace D := Lib.hid (D.out.next hb)
  clear hb
  go_wp2
  go_ret
  exact ⟨rfl, D.out.a⟩

theorem walk (s : ByteArray) (w : World) (hV : Vars w) (_ : s.size ≤ maxLen) :
    Calls Tryz.prog 3 #[.string s] w fun e w' => e = .returned (.bool true) ∧ Below w.heap.size w w' := by
  by_cases hs : (s.size : Int) ≤ 1048576
  · exact walkG s w hV hs
  · have hs2 : decide (1048576 < (s.size : Int)) = true := decide_eq_true (by omega)
    go_enter Tryz.func3, Tryz.ntmps3
    go_wp2
    go_ret
    exact ⟨rfl, Below.refl _ _⟩

theorem own : ownKnob Tryz.prog.godebug = none := by kernel_rfl
theorem laidOut : laidOutB Tryz.prog = true := by kernel_rfl
/-- How many blocks lie ahead of those of the errors. -/
noncomputable def low : Nat := (World.holding Tryz.prog default ⟨#[], #[], []⟩).heap.size
/-- A world in which the listed variables lie as the row tells. -/
noncomputable def laidWorld (os : Os) : World :=
  let w0 := World.holding Tryz.prog os ⟨#[.cells #[.string ⟨#[118, 97, 108, 117, 101, 32, 111, 117, 116, 32, 111, 102, 32, 114, 97, 110, 103, 101]⟩] 216, .cells #[.string ⟨#[105, 110, 118, 97, 108, 105, 100, 32, 115, 121, 110, 116, 97, 120]⟩] 216], #[], []⟩
  let put (h : Array Obj) (g : Nat) (cs : Array Value) : Array Obj := h.modify g fun
    | .cells _ t frozen => .cells cs t frozen
    | o => o
  let h0 := put w0.heap 7 #[.int .u8 0, .int .u8 1, .int .u8 28, .int .u8 2, .int .u8 29, .int .u8 14, .int .u8 24, .int .u8 3, .int .u8 30, .int .u8 22, .int .u8 20, .int .u8 15, .int .u8 25, .int .u8 17, .int .u8 4, .int .u8 8, .int .u8 31, .int .u8 27, .int .u8 13, .int .u8 23, .int .u8 21, .int .u8 19, .int .u8 16, .int .u8 7, .int .u8 26, .int .u8 12, .int .u8 18, .int .u8 6, .int .u8 11, .int .u8 5, .int .u8 10, .int .u8 9]
  let h1 := put h0 8 #[.int .u8 0, .int .u8 1, .int .u8 56, .int .u8 2, .int .u8 57, .int .u8 49, .int .u8 28, .int .u8 3, .int .u8 61, .int .u8 58, .int .u8 42, .int .u8 50, .int .u8 38, .int .u8 29, .int .u8 17, .int .u8 4, .int .u8 62, .int .u8 47, .int .u8 59, .int .u8 36, .int .u8 45, .int .u8 43, .int .u8 51, .int .u8 22, .int .u8 53, .int .u8 39, .int .u8 33, .int .u8 30, .int .u8 24, .int .u8 18, .int .u8 12, .int .u8 5, .int .u8 63, .int .u8 55, .int .u8 48, .int .u8 27, .int .u8 60, .int .u8 41, .int .u8 37, .int .u8 16, .int .u8 46, .int .u8 35, .int .u8 44, .int .u8 21, .int .u8 52, .int .u8 32, .int .u8 23, .int .u8 11, .int .u8 54, .int .u8 26, .int .u8 40, .int .u8 15, .int .u8 34, .int .u8 20, .int .u8 31, .int .u8 10, .int .u8 25, .int .u8 14, .int .u8 19, .int .u8 9, .int .u8 13, .int .u8 8, .int .u8 7, .int .u8 6]
  let h2 := put h1 4 #[.int .u64 1, .int .u64 10, .int .u64 100, .int .u64 1000, .int .u64 10000, .int .u64 100000, .int .u64 1000000, .int .u64 10000000, .int .u64 100000000, .int .u64 1000000000, .int .u64 10000000000, .int .u64 100000000000, .int .u64 1000000000000, .int .u64 10000000000000, .int .u64 100000000000000, .int .u64 1000000000000000, .int .u64 10000000000000000, .int .u64 100000000000000000, .int .u64 1000000000000000000, .int .u64 10000000000000000000]
  let h3 := put h2 2 #[.int .u8 128, .int .u8 191, .int .u8 160, .int .u8 191, .int .u8 128, .int .u8 159, .int .u8 144, .int .u8 191, .int .u8 128, .int .u8 143, .int .u8 0, .int .u8 0, .int .u8 0, .int .u8 0, .int .u8 0, .int .u8 0, .int .u8 0, .int .u8 0, .int .u8 0, .int .u8 0, .int .u8 0, .int .u8 0, .int .u8 0, .int .u8 0, .int .u8 0, .int .u8 0, .int .u8 0, .int .u8 0, .int .u8 0, .int .u8 0, .int .u8 0, .int .u8 0]
  let h4 := put h3 6 #[.iface 214 (.pointer (some ⟨low + 0, 0, none⟩))]
  let h5 := put h4 5 #[.iface 214 (.pointer (some ⟨low + 1, 0, none⟩))]
  let h6 := put h5 1 (Go.Pinned.utf8FirstZ.map fun (n : Nat) => Value.int .u8 (n : Int)).toArray
  { w0 with heap := h6 }
theorem laidWorld_met (os : Os) (args : Array Value) : laidMetH Tryz.prog Rows.fnExactReadNotesRow.laid ((laidWorld os).forCall (fun _ _ => 0) ⟨#[], args, []⟩).memory :=
  (LaidIn.of_run [7, 8, 4, 2, 6, 5, 1, low + 0, low + 1] 8 (by kernel_rfl) (by kernel_rfl) (by kernel_rfl) (by kernel_rfl) : LaidIn Tryz.prog ((laidWorld os).forCall (fun _ _ => 0) ⟨#[], args, []⟩).memory Rows.fnExactReadNotesRow.laid [7, 8, 4, 2, 6, 5, 1, low + 0, low + 1]).met
set_option linter.unusedVariables false in
set_option maxRecDepth 100000 in
theorem lifted (os : Os) (started : os.Started) (H : Type) (enc : TypeId × Value → H) :
    ReturnsInHanded {} Tryz.checked os 3 .any (fun w args => (Rows.fnExactReadNotesSpec.pre enc Tryz.prog Tryz.f3 [] false w args ∧ laidMetH Tryz.prog Rows.fnExactReadNotesRow.laid w) ∧ sizedMet enc Tryz.prog Tryz.f3 (OpenSpec.ofChange Rows.fnExactReadNotesSpec) false w args) (Rows.fnExactReadNotesSpec.post enc Tryz.prog Tryz.f3 false true false false) := by
  refine returnsInHanded_of_change_and_shaped (C := Tryz.checked) (X := fun w _ => laidMetH Tryz.prog Rows.fnExactReadNotesRow.laid w) (fun _ _ _ hh h => h.of_heap hh) own started (by kernel_rfl) Tryz.func3
    (ChangeSpec.witness_at (enc := enc) (C := Tryz.checked) (os := os) (X := fun w _ => laidMetH Tryz.prog Rows.fnExactReadNotesRow.laid w) false (laidWorld os) #[.string ByteArray.empty] 8 rfl (by kernel_rfl) (by kernel_rfl) (by kernel_rfl) (by kernel_rfl) (by kernel_rfl) (laidWorld_met os _)) ?_
  intro W base args ds gs before hval0 hW _ _ hL hsh _
  have hT : Lib.TabIs Tryz.prog W "internal/strconv.uint64pow10" .u64 Lib.pow10Tab := tab_of (laidMet.tail (laidMet.tail hL))
  have hT : Vars W := ⟨hT, len_of hsh, syn_of (laidMet.tail (laidMet.tail (laidMet.tail (laidMet.tail (laidMet.tail (hL)))))), rng_of (laidMet.tail (laidMet.tail (laidMet.tail (laidMet.tail (hL)))))⟩
  have hval : ∀ (j : Nat) t v, Tryz.f3.params[j]? = some t → args[j]? = some v → Value.okWide Tryz.prog W .any base t v := hval0
  have hW' := hW
  obtain ⟨p, q, hA0, hV, rfl, hfz, hnd⟩ := hW
  have hA : DataW.TrodAll enc Tryz.prog W 0 (fun _ => true) true Tryz.f3.params.toList args.toList ds p := hA0
  rw [Tryz.params3] at hA hval
  obtain ⟨v0, vs0, d0, ds0, p0, q0, hargs, rfl, rfl, h0, r0⟩ := trodAll_cons hA
  obtain ⟨rfl, rfl, rfl⟩ := trodAll_nil r0
  obtain rfl : args = #[v0] := by cases args; simp_all
  obtain ⟨rfl, rfl⟩ := trodVars_none hV
  have k0 := h0
  have lt0 : ∀ x ∈ p0, x.block < W.heap.size := by obtain ⟨m, hm⟩ := k0; exact DataW.trod_lt m _ _ _ hm
  obtain ⟨a0, rfl, rfl, rfl, w0⟩ := open_string Tryz.underlying9 (hval 0 9 v0 rfl rfl) h0
  clear hA0 hval0
  refine (walk a0 W hT w0).mono fun e W' ⟨he, bel⟩ => ?_
  subst he
  exact ⟨_, rfl, _, _, _, [], _, [], hW', trodAll_mk1 (shut_bool Tryz.underlying4 _), (trodAll_cons_mk (Below.trod laidOut (by kernel_rfl) (of_decide_eq_true (by kernel_rfl)) k0 bel lt0) trodAll_mk0), rfl, bel.frame _, fun h => by cases h⟩

theorem jPlace : (Rows.fnExactReadNotesRow.inPlace == Tryz.prog.inPlace 3) = true := by kernel_rfl
theorem jFollow : (Rows.fnExactReadNotesRow.unfollowed == Tryz.prog.unfollowed 3) = true := by kernel_rfl
theorem jRecurse : (Rows.fnExactReadNotesRow.recurses == Tryz.prog.recurses 3) = true := by kernel_rfl
theorem jNamed : (Rows.fnExactReadNotesRow.named == Tryz.prog.varsNamed 3) = true := by kernel_rfl
theorem joined : joinedFacts Tryz.prog 3 Tryz.f3 Rows.fnExactReadNotesSpec Rows.fnExactReadNotesRow = true :=
  joined_of (by kernel_rfl) (by kernel_rfl) (by kernel_rfl) (by kernel_rfl) (by kernel_rfl) jPlace jFollow jRecurse jNamed (by kernel_rfl) (by kernel_rfl) (by kernel_rfl) (by kernel_rfl) (by kernel_rfl) (by kernel_rfl) (by kernel_rfl) (by kernel_rfl) (by kernel_rfl) rfl rfl rfl rfl rfl rfl (by kernel_rfl) (by kernel_rfl) (by kernel_rfl)
theorem over : Rows.fnExactReadNotesRow.holds Tryz.pinned (OpenSpec.ofChange Rows.fnExactReadNotesSpec) :=
  OpenClaim.holds_of_wide 3 Tryz.f3 rfl rfl rfl rfl rfl rfl rfl ⟨rfl, rfl, rfl, rfl, rfl⟩ rfl rfl rfl rfl rfl (by kernel_rfl) Tryz.func3 joined
    (of_decide_eq_true (by kernel_rfl)) (by unfold Func.isWrapper; first | (rw [if_pos (by decide +kernel)]; kernel_rfl) | (rw [if_neg (by decide +kernel)]; exact ⟨rfl, rfl⟩))
    (fun os started H enc _ => lifted os started H enc)

theorem fname : Tryz.prog.funcNamed "loop.example/g01007/laws.FnExactReadNotes" = some 3 := by kernel_rfl
theorem stand9 : Tryz.prog.wantsStandIn 9 = false := by kernel_rfl
theorem proved : Rows.FnExactReadNotesCardSaid :=
  Claim7.holds_tied_plain_at .later [] [.data, .data, .data, .data, .sentinel, .sentinel, .pinned] true (true, "1a469eb54d0db1238003e4a56a56cfdcd6cb575e8d3f05ca5a5742fb30471507") true over (fun _ h => by cases h) (by kernel_rfl) (fun _ h => by cases h) fnExactReadNotes_row_tie rfl ⟨rfl, rfl⟩ (by kernel_rfl) rfl
    (fun f fn hf hfn => by
      obtain rfl : f = 3 := (Option.some.inj (fname.symm.trans hf)).symm
      obtain rfl : fn = Tryz.f3 := (Option.some.inj (Tryz.func3.symm.trans hfn)).symm
      exact ⟨by kernel_rfl, fun j t ht => by
        rw [Tryz.params3] at ht
        rcases j with _ | j
        · obtain rfl : t = 9 := by simpa using ht.symm
          exact stand9
        simp at ht⟩)
    (by kernel_rfl)
#print axioms proved
end Go.Proofs.YtbcikkaoohihhaaGreatDoor.fnExactReadNotes
