/- Exact law: the program's ReadCertificate returns what the reference's returns, for all arguments. The listed variables lie in memory as the program's text lays them. -/
import Derived.Test.YtaajdkgcfoppeaaDoorRcI
import Derived.Test.YtaajdkgcfoppeaaDoorDoorV
namespace Go.Proofs.YtaajdkgcfoppeaaDoor.fnExactReadCertificate
open Go.ChangeShapes Go.WideShapes Go.ChangeAt Go.RowKit
open Go.ChangeMaps (open_string shut_string)
open Go.Lib

set_option maxHeartbeats 2000000 in
theorem walkG (s : ByteArray) (kk : Int) (xs : List Int) (ok : Bool) (w : World) (hl : xs.length ≤ 1000000000000000) (hs1 : (s.size : Int) ≤ 1048576)
    (HS : Hid (∀ W, Below w.heap.size w W → Calls Tryd.prog 4 #[.string s] W (RetRc W kk xs ok))) (HI : Hid (∀ W, Below w.heap.size w W → Calls Tryd.prog 5 #[.string s] W (RetRc W kk xs ok))) :
    Calls Tryd.prog 3 #[.string s] w fun e w' => e = .returned (.bool true) ∧ Below w.heap.size w w' := by
  have hs2 : decide (1048576 < (s.size : Int)) = false := decide_eq_false (by omega)
  go_enter Tryd.func3, Tryd.ntmps3
  go_wp2_with fail
  refine (HS.out _ (Below.refl _ _)).mono ?_
  rintro e w1 ⟨As, cs, rfl, hws, hb1⟩
  obtain ⟨hc1, hf1⟩ := bcellB hb1
  have hy1 := hb1.size
  (try simp at hy1)
  have E1 : Below w.heap.size w w1 := ext_trans (Below.refl _ _) hb1
  go_wp2_with fail
  refine (HI.out _ (ext_alloc E1 _)).mono ?_
  rintro e w2 ⟨Ag, cg, rfl, hwg, hb2⟩
  obtain ⟨hc2, hf2⟩ := bcellB hb2
  have hy2 := hb2.size
  (try simp at hy2)
  have vs2 : w1.heap.size < w2.heap.size := by omega
  have E2 : Below w.heap.size w w2 := ext_trans (ext_alloc E1 _) hb2
  have Y2 : Below w1.heap.size w1 w2 := ext_trans (ext_alloc (Below.refl w1.heap.size w1) _) hb2
  go_wp2_with fail
  refine (eqCertificate_any kk _ _ _ _ xs _ (hwg.below (ext1 _ _)).rd ((hws.rd.below (ext_alloc Y2 _)).more (by simp; omega)) (by unfold maxLen; omega)).mono ?_
  rintro e w3 ⟨rfl, hb3⟩
  obtain ⟨hc3, hf3⟩ := bcellB hb3
  have hy3 := hb3.size
  (try simp at hy3)
  have vs3 : w1.heap.size < w3.heap.size := by omega
  have vg3 : w2.heap.size < w3.heap.size := by omega
  have E3 : Below w.heap.size w w3 := ext_trans (ext_alloc E2 _) hb3
  have Y3 : Below w1.heap.size w1 w3 := ext_trans (ext_alloc Y2 _) hb3
  have hwg2 := (hwg.below (ext1 _ _)).below hb3
  go_wp2_with fail
  refine (markCertificate_any kk _ _ xs _ 1 _ hwg2 (by (try simp); omega) hl (by omega) (by omega)).mono ?_
  rintro e w4 ⟨rfl, hwm, hb4, hs4, ho4⟩
  obtain ⟨hc4, hf4⟩ := bcellB hb4
  have hy4 := hb4.size
  (try simp at hy4)
  have vs4 : w1.heap.size < w4.heap.size := by omega
  have vg4 : w2.heap.size < w4.heap.size := by omega
  have E4 : Below w.heap.size w w4 := (E3).trans (hb4.mono (by have := E3.size; have := E1.size; (try simp only [World.size_alloc]); omega))
  have hg4 : ∀ o, w4.cell? ⟨w2.heap.size, o, none⟩ = w3.cell? ⟨w2.heap.size, o, none⟩ := ho4 _ (hwg.apart (Nat.le_refl _)) (by omega)
  have Y4 : Below w1.heap.size w1 w4 := (Y3).trans (hb4.mono (by (try simp only [World.size_alloc]); omega))
  go_wp2_with fail
  refine (heldCertificate_any kk _ _ xs.length 1 _ hwm.rd hl (by omega) (by omega)).mono ?_
  rintro e w5 ⟨rfl, hb5⟩
  obtain ⟨hc5, hf5⟩ := bcellB hb5
  have hy5 := hb5.size
  (try simp at hy5)
  have vs5 : w1.heap.size < w5.heap.size := by omega
  have vg5 : w2.heap.size < w5.heap.size := by omega
  have E5 : Below w.heap.size w w5 := ext_trans (E4) hb5
  have Y5 : Below w1.heap.size w1 w5 := ext_trans (Y4) hb5
  have Z5 : Below w4.heap.size w4 w5 := ext_trans ((Below.refl w4.heap.size w4)) hb5
  go_wp2_with fail
  refine (HI.out _ E5).mono ?_
  rintro e w6 ⟨Ah, ch, rfl, hwh, hb6⟩
  obtain ⟨hc6, hf6⟩ := bcellB hb6
  have hy6 := hb6.size
  (try simp at hy6)
  have vs6 : w1.heap.size < w6.heap.size := by omega
  have vg6 : w2.heap.size < w6.heap.size := by omega
  have E6 : Below w.heap.size w w6 := ext_trans (E5) hb6
  have Y6 : Below w1.heap.size w1 w6 := ext_trans (Y5) hb6
  have Z6 : Below w4.heap.size w4 w6 := ext_trans (Z5) hb6
  go_wp2_with fail
  refine (eqCertificate_any kk _ _ _ _ xs _ (hwh.below (ext1 _ _)).rd ((hws.rd.below (ext_alloc Y6 _)).more (by simp; omega)) (by unfold maxLen; omega)).mono ?_
  rintro e w7 ⟨rfl, hb7⟩
  obtain ⟨hc7, hf7⟩ := bcellB hb7
  have hy7 := hb7.size
  (try simp at hy7)
  have vs7 : w1.heap.size < w7.heap.size := by omega
  have vg7 : w2.heap.size < w7.heap.size := by omega
  have vh7 : w6.heap.size < w7.heap.size := by omega
  have E7 : Below w.heap.size w w7 := ext_trans (ext_alloc E6 _) hb7
  have Y7 : Below w1.heap.size w1 w7 := ext_trans (ext_alloc Y6 _) hb7
  have Z7 : Below w4.heap.size w4 w7 := ext_trans (ext_alloc Z6 _) hb7
  go_wp2_with fail
  refine (heldCertificate_any kk _ _ xs.length 1 _ ((hwm.rd.below (Z7)).more (by (try simp); omega)) hl (by omega) (by omega)).mono ?_
  rintro e w8 ⟨rfl, hb8⟩
  obtain ⟨hc8, hf8⟩ := bcellB hb8
  have hy8 := hb8.size
  (try simp at hy8)
  have vs8 : w1.heap.size < w8.heap.size := by omega
  have vg8 : w2.heap.size < w8.heap.size := by omega
  have vh8 : w6.heap.size < w8.heap.size := by omega
  have E8 : Below w.heap.size w w8 := ext_trans (E7) hb8
  have Y8 : Below w1.heap.size w1 w8 := ext_trans (Y7) hb8
  have Z8 : Below w4.heap.size w4 w8 := ext_trans (Z7) hb8
  go_wp2
  go_ret
  exact ⟨rfl, E8⟩

theorem walk (s : ByteArray) (w : World) (hV : Vars w) (_ : s.size ≤ maxLen) :
    Calls Tryd.prog 3 #[.string s] w fun e w' => e = .returned (.bool true) ∧ Below w.heap.size w w' := by
  by_cases hs : (s.size : Int) ≤ 1048576
  · exact walkG s _ _ _ w (by have := rcX_bd (spB 32 s); omega) hs (fun W _ => sReadCert_any s W (by omega)) (fun W hb => iReadCert_any s W (by omega) (hV.next hb))
  · have hs2 : decide (1048576 < (s.size : Int)) = true := decide_eq_true (by omega)
    go_enter Tryd.func3, Tryd.ntmps3
    go_wp2
    go_ret
    exact ⟨rfl, Below.refl _ _⟩

theorem own : ownKnob Tryd.prog.godebug = none := by kernel_rfl
theorem laidOut : laidOutB Tryd.prog = true := by kernel_rfl
/-- How many blocks lie ahead of those of the errors. -/
noncomputable def low : Nat := (World.holding Tryd.prog default ⟨#[], #[], []⟩).heap.size
/-- A world in which the listed variables lie as the row tells. -/
noncomputable def laidWorld (os : Os) : World :=
  let w0 := World.holding Tryd.prog os ⟨#[.cells #[.string ⟨#[118, 97, 108, 117, 101, 32, 111, 117, 116, 32, 111, 102, 32, 114, 97, 110, 103, 101]⟩] 102, .cells #[.string ⟨#[105, 110, 118, 97, 108, 105, 100, 32, 115, 121, 110, 116, 97, 120]⟩] 102], #[], []⟩
  let put (h : Array Obj) (g : Nat) (cs : Array Value) : Array Obj := h.modify g fun
    | .cells _ t frozen => .cells cs t frozen
    | o => o
  let h0 := put w0.heap 6 #[.int .u8 0, .int .u8 1, .int .u8 28, .int .u8 2, .int .u8 29, .int .u8 14, .int .u8 24, .int .u8 3, .int .u8 30, .int .u8 22, .int .u8 20, .int .u8 15, .int .u8 25, .int .u8 17, .int .u8 4, .int .u8 8, .int .u8 31, .int .u8 27, .int .u8 13, .int .u8 23, .int .u8 21, .int .u8 19, .int .u8 16, .int .u8 7, .int .u8 26, .int .u8 12, .int .u8 18, .int .u8 6, .int .u8 11, .int .u8 5, .int .u8 10, .int .u8 9]
  let h1 := put h0 7 #[.int .u8 0, .int .u8 1, .int .u8 56, .int .u8 2, .int .u8 57, .int .u8 49, .int .u8 28, .int .u8 3, .int .u8 61, .int .u8 58, .int .u8 42, .int .u8 50, .int .u8 38, .int .u8 29, .int .u8 17, .int .u8 4, .int .u8 62, .int .u8 47, .int .u8 59, .int .u8 36, .int .u8 45, .int .u8 43, .int .u8 51, .int .u8 22, .int .u8 53, .int .u8 39, .int .u8 33, .int .u8 30, .int .u8 24, .int .u8 18, .int .u8 12, .int .u8 5, .int .u8 63, .int .u8 55, .int .u8 48, .int .u8 27, .int .u8 60, .int .u8 41, .int .u8 37, .int .u8 16, .int .u8 46, .int .u8 35, .int .u8 44, .int .u8 21, .int .u8 52, .int .u8 32, .int .u8 23, .int .u8 11, .int .u8 54, .int .u8 26, .int .u8 40, .int .u8 15, .int .u8 34, .int .u8 20, .int .u8 31, .int .u8 10, .int .u8 25, .int .u8 14, .int .u8 19, .int .u8 9, .int .u8 13, .int .u8 8, .int .u8 7, .int .u8 6]
  let h2 := put h1 5 #[.int .u64 1, .int .u64 10, .int .u64 100, .int .u64 1000, .int .u64 10000, .int .u64 100000, .int .u64 1000000, .int .u64 10000000, .int .u64 100000000, .int .u64 1000000000, .int .u64 10000000000, .int .u64 100000000000, .int .u64 1000000000000, .int .u64 10000000000000, .int .u64 100000000000000, .int .u64 1000000000000000, .int .u64 10000000000000000, .int .u64 100000000000000000, .int .u64 1000000000000000000, .int .u64 10000000000000000000]
  let h3 := put h2 2 #[.int .u8 128, .int .u8 191, .int .u8 160, .int .u8 191, .int .u8 128, .int .u8 159, .int .u8 144, .int .u8 191, .int .u8 128, .int .u8 143, .int .u8 0, .int .u8 0, .int .u8 0, .int .u8 0, .int .u8 0, .int .u8 0, .int .u8 0, .int .u8 0, .int .u8 0, .int .u8 0, .int .u8 0, .int .u8 0, .int .u8 0, .int .u8 0, .int .u8 0, .int .u8 0, .int .u8 0, .int .u8 0, .int .u8 0, .int .u8 0, .int .u8 0, .int .u8 0]
  let h4 := put h3 4 #[.iface 100 (.pointer (some ⟨low + 0, 0, none⟩))]
  let h5 := put h4 3 #[.iface 100 (.pointer (some ⟨low + 1, 0, none⟩))]
  let h6 := put h5 1 (Go.Pinned.utf8FirstZ.map fun (n : Nat) => Value.int .u8 (n : Int)).toArray
  { w0 with heap := h6 }
theorem laidWorld_met (os : Os) (args : Array Value) : laidMetH Tryd.prog Rows.fnExactReadCertificateRow.laid ((laidWorld os).forCall (fun _ _ => 0) ⟨#[], args, []⟩).memory :=
  (LaidIn.of_run [6, 7, 5, 2, 4, 3, 1, low + 0, low + 1] 8 (by kernel_rfl) (by kernel_rfl) (by kernel_rfl) (by kernel_rfl) : LaidIn Tryd.prog ((laidWorld os).forCall (fun _ _ => 0) ⟨#[], args, []⟩).memory Rows.fnExactReadCertificateRow.laid [6, 7, 5, 2, 4, 3, 1, low + 0, low + 1]).met
set_option linter.unusedVariables false in
set_option maxRecDepth 100000 in
theorem lifted (os : Os) (started : os.Started) (H : Type) (enc : TypeId × Value → H) :
    ReturnsInHanded {} Tryd.checked os 3 .any (fun w args => (Rows.fnExactReadCertificateSpec.pre enc Tryd.prog Tryd.f3 [] false w args ∧ laidMetH Tryd.prog Rows.fnExactReadCertificateRow.laid w) ∧ sizedMet enc Tryd.prog Tryd.f3 (OpenSpec.ofChange Rows.fnExactReadCertificateSpec) false w args) (Rows.fnExactReadCertificateSpec.post enc Tryd.prog Tryd.f3 false true false false) := by
  refine returnsInHanded_of_change_and_shaped (C := Tryd.checked) (X := fun w _ => laidMetH Tryd.prog Rows.fnExactReadCertificateRow.laid w) (fun _ _ _ hh h => h.of_heap hh) own started (by kernel_rfl) Tryd.func3
    (ChangeSpec.witness_at (enc := enc) (C := Tryd.checked) (os := os) (X := fun w _ => laidMetH Tryd.prog Rows.fnExactReadCertificateRow.laid w) false (laidWorld os) #[.string ByteArray.empty] 8 rfl (by kernel_rfl) (by kernel_rfl) (by kernel_rfl) (by kernel_rfl) (by kernel_rfl) (laidWorld_met os _)) ?_
  intro W base args ds gs before hval0 hW _ _ hL hsh _
  have hT : Lib.TabIs Tryd.prog W "internal/strconv.uint64pow10" .u64 Lib.pow10Tab := tab_of (laidMet.tail (laidMet.tail hL))
  have hT : Vars W := ⟨hT, len_of hsh, syn_of (laidMet.tail (laidMet.tail (laidMet.tail (laidMet.tail (laidMet.tail (hL)))))), rng_of (laidMet.tail (laidMet.tail (laidMet.tail (laidMet.tail (hL)))))⟩
  have hval : ∀ (j : Nat) t v, Tryd.f3.params[j]? = some t → args[j]? = some v → Value.okWide Tryd.prog W .any base t v := hval0
  have hW' := hW
  obtain ⟨p, q, hA0, hV, rfl, hfz, hnd⟩ := hW
  have hA : DataW.TrodAll enc Tryd.prog W 0 (fun _ => true) true Tryd.f3.params.toList args.toList ds p := hA0
  rw [Tryd.params3] at hA hval
  obtain ⟨v0, vs0, d0, ds0, p0, q0, hargs, rfl, rfl, h0, r0⟩ := trodAll_cons hA
  obtain ⟨rfl, rfl, rfl⟩ := trodAll_nil r0
  obtain rfl : args = #[v0] := by cases args; simp_all
  obtain ⟨rfl, rfl⟩ := trodVars_none hV
  have k0 := h0
  have lt0 : ∀ x ∈ p0, x.block < W.heap.size := by obtain ⟨m, hm⟩ := k0; exact DataW.trod_lt m _ _ _ hm
  obtain ⟨a0, rfl, rfl, rfl, w0⟩ := open_string Tryd.underlying9 (hval 0 9 v0 rfl rfl) h0
  clear hA0 hval0
  refine (walk a0 W hT w0).mono fun e W' ⟨he, bel⟩ => ?_
  subst he
  exact ⟨_, rfl, _, _, _, [], _, [], hW', trodAll_mk1 (shut_bool Tryd.underlying4 _), (trodAll_cons_mk (Below.trod laidOut (by kernel_rfl) (of_decide_eq_true (by kernel_rfl)) k0 bel lt0) trodAll_mk0), rfl, bel.frame _, fun h => by cases h⟩

theorem jPlace : (Rows.fnExactReadCertificateRow.inPlace == Tryd.prog.inPlace 3) = true := by kernel_rfl
theorem jFollow : (Rows.fnExactReadCertificateRow.unfollowed == Tryd.prog.unfollowed 3) = true := by kernel_rfl
theorem jRecurse : (Rows.fnExactReadCertificateRow.recurses == Tryd.prog.recurses 3) = true := by kernel_rfl
theorem jNamed : (Rows.fnExactReadCertificateRow.named == Tryd.prog.varsNamed 3) = true := by kernel_rfl
theorem joined : joinedFacts Tryd.prog 3 Tryd.f3 Rows.fnExactReadCertificateSpec Rows.fnExactReadCertificateRow = true :=
  joined_of (by kernel_rfl) (by kernel_rfl) (by kernel_rfl) (by kernel_rfl) (by kernel_rfl) jPlace jFollow jRecurse jNamed (by kernel_rfl) (by kernel_rfl) (by kernel_rfl) (by kernel_rfl) (by kernel_rfl) (by kernel_rfl) (by kernel_rfl) (by kernel_rfl) (by kernel_rfl) rfl rfl rfl rfl rfl rfl (by kernel_rfl) (by kernel_rfl) (by kernel_rfl)
theorem over : Rows.fnExactReadCertificateRow.holds Tryd.pinned (OpenSpec.ofChange Rows.fnExactReadCertificateSpec) :=
  OpenClaim.holds_of_wide 3 Tryd.f3 rfl rfl rfl rfl rfl rfl rfl ⟨rfl, rfl, rfl, rfl, rfl⟩ rfl rfl rfl rfl rfl (by kernel_rfl) Tryd.func3 joined
    (of_decide_eq_true (by kernel_rfl)) (by unfold Func.isWrapper; first | (rw [if_pos (by decide +kernel)]; kernel_rfl) | (rw [if_neg (by decide +kernel)]; exact ⟨rfl, rfl⟩))
    (fun os started H enc _ => lifted os started H enc)

theorem fname : Tryd.prog.funcNamed "loop.example/g01007/laws.FnExactReadCertificate" = some 3 := by kernel_rfl
theorem stand9 : Tryd.prog.wantsStandIn 9 = false := by kernel_rfl
theorem proved : Rows.FnExactReadCertificateCardSaid :=
  Claim7.holds_tied_plain_at .later [] [.data, .data, .data, .data, .sentinel, .sentinel, .pinned] true (true, "a92b46d2464dccb0d0f59d3557fe6303ee34983917235fc94acabc68c9985611") true over (fun _ h => by cases h) (by kernel_rfl) (fun _ h => by cases h) fnExactReadCertificate_row_tie rfl ⟨rfl, rfl⟩ (by kernel_rfl) rfl
    (fun f fn hf hfn => by
      obtain rfl : f = 3 := (Option.some.inj (fname.symm.trans hf)).symm
      obtain rfl : fn = Tryd.f3 := (Option.some.inj (Tryd.func3.symm.trans hfn)).symm
      exact ⟨by kernel_rfl, fun j t ht => by
        rw [Tryd.params3] at ht
        rcases j with _ | j
        · obtain rfl : t = 9 := by simpa using ht.symm
          exact stand9
        simp at ht⟩)
    (by kernel_rfl)
#print axioms proved
end Go.Proofs.YtaajdkgcfoppeaaDoor.fnExactReadCertificate
