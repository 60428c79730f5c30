/- Parts of the proof, merged: CheckEW UnitRW. No condition but those that each theorem names. -/
import Derived.Test.YtpgkellmhlmjeaaGreatDoorMgAL
import Derived.Test.YtpgkellmhlmjeaaGreatDoorMgAJ
namespace Go.Proofs.YtpgkellmhlmjeaaGreatDoor
open Go.RowKit Go.Sort Go.Maps Go.WideMaps
/-- A map's len in a quiet region. -/
theorem wpQuiet_len_map {P : Program} {ops : Array Oper} {C : World → Prop} {Q : Act → Prop} {rest : List Oper} {a : Act} {o : Oper} (hg : o.guard = none) (m : Operand) (t : TypeId)
    (hop : o.op = .call { callee := .builtin .len, args := #[m], argTypes := #[t] }) (b : Nat) (z : Int) (hm : a.eval m = .map (some b)) (hrun : ∀ w, C w → (Builtin.len_ #[t] o.type #[.map (some b)]).run P w = .ok (.int .i64 z) w)
    (h : wpQuiet P ops C Q rest (a.put o.dst (.int .i64 z))) : wpQuiet P ops C Q (o :: rest) a := by
  refine wpQuiet_step fun K hK => ?_
  rw [if_pos (by simp [Region.wanted, hg])]
  refine ⟨.int .i64 z, fun w hw => ?_, hK _ h⟩
  unfold Oper.quietAt
  simp [execOp, hop, resolve, invoke, builtin, hm, hrun w hw, Oper.quietUpon, Result.andThen]
/-- A surd goes to the end of a list if it is not there. -/
def addS (acc : List Sd) (s : Sd) : List Sd := if s ∈ acc then acc else acc ++ [s]
theorem addS_le : ∀ (xs acc : List Sd), (xs.foldl addS acc).length ≤ acc.length + xs.length
  | [], acc => by simp
  | x :: xs, acc => by
    have := addS_le xs (addS acc x)
    have h2 : (addS acc x).length ≤ acc.length + 1 := by unfold addS; split <;> simp
    simp only [List.foldl_cons, List.length_cons]
    omega
theorem addS_eq : ∀ (xs acc : List Sd), (xs.foldl addS acc).length = acc.length + xs.length ↔ (xs.Nodup ∧ ∀ x ∈ xs, x ∉ acc)
  | [], acc => by simp
  | x :: xs, acc => by
    by_cases hm : x ∈ acc
    · have e : addS acc x = acc := if_pos hm
      have h1 := addS_le xs acc
      simp only [List.foldl_cons, e, List.length_cons]
      constructor
      · intro h; omega
      · rintro ⟨_, h⟩; exact absurd hm (h x (by simp))
    · have e : addS acc x = acc ++ [x] := if_neg hm
      have ih := addS_eq xs (acc ++ [x])
      simp only [List.foldl_cons, e, List.length_cons]
      rw [show acc.length + (xs.length + 1) = (acc ++ [x]).length + xs.length by simp; omega, ih, List.nodup_cons]
      constructor
      · rintro ⟨h1, h2⟩
        refine ⟨⟨fun hx => (h2 x hx) (by simp), h1⟩, fun y hy => ?_⟩
        rcases List.mem_cons.1 hy with rfl | hy
        · exact hm
        · exact fun h => h2 y hy (by simp [h])
      · rintro ⟨⟨h1, h2⟩, h3⟩
        refine ⟨h2, fun y hy h => ?_⟩
        rcases List.mem_append.1 h with h | h
        · exact h3 y (by simp [hy]) h
        · rw [List.mem_singleton.1 h] at hy
          exact h1 hy
theorem key_mem {acc : List Sd} {s : Sd} (ha : ∀ x ∈ acc, sdOk x = true) (hs : sdOk s = true) : ((acc.map klS).any fun y => y.sameKey (klS s)) = decide (s ∈ acc) := by
  induction acc with
  | nil => simp
  | cons a acc ih =>
    rw [List.map_cons, List.any_cons, ih (fun x hx => ha x (by simp [hx]))]
    by_cases e : a = s
    · subst e
      rw [WideAt.sameKey_self (klS_lit hs)]
      simp
    · rw [sameKey_ne (fun h => e (klS_inj (ha a (by simp)) hs h))]
      have : s ≠ a := fun h => e h.symm
      simp [this]
theorem add_map : ∀ (xs acc : List Sd), (∀ x ∈ xs, sdOk x = true) → (∀ x ∈ acc, sdOk x = true) → (xs.map klS).foldl addKey (acc.map klS) = (xs.foldl addS acc).map klS
  | [], acc, _, _ => rfl
  | x :: xs, acc, hx, ha => by
    have h1 : addKey (acc.map klS) (klS x) = (addS acc x).map klS := by
      unfold addKey addS
      rw [key_mem ha (hx x (by simp))]
      by_cases hm : x ∈ acc
      · simp [hm]
      · simp [hm]
    rw [List.map_cons, List.foldl_cons, List.foldl_cons, h1]
    refine add_map xs (addS acc x) (fun y hy => hx y (by simp [hy])) (fun y hy => ?_)
    unfold addS at hy
    split at hy
    · exact ha y hy
    · rcases List.mem_append.1 hy with h | h
      · exact ha y h
      · rw [List.mem_singleton.1 h]; exact hx x (by simp)
/-- How many keys the set of surds has. -/
theorem set_size {xs : List Sd} (h : ∀ x ∈ xs, sdOk x = true) : size (setOf (H := Unit) (.lit (.bool true)) (xs.map klS)) = (xs.foldl addS []).length := by
  rw [size_setOf _ _ (fun x hx => by obtain ⟨s, hs, rfl⟩ := List.mem_map.1 hx; exact klS_lit (h s hs))]
  have := add_map xs [] h (by simp)
  rw [List.map_nil] at this
  rw [this, List.length_map]
theorem set_nodup {xs : List Sd} (h : ∀ x ∈ xs, sdOk x = true) : size (setOf (H := Unit) (.lit (.bool true)) (xs.map klS)) ≤ xs.length ∧ (size (setOf (H := Unit) (.lit (.bool true)) (xs.map klS)) = xs.length ↔ xs.Nodup) := by
  rw [set_size h]
  have h1 := addS_le xs []
  have h2 := addS_eq xs []
  simp at h1 h2
  exact ⟨h1, by rw [h2]⟩
theorem set_snoc {L : List Sd} {k : Nat} {s : Sd} (h : L[k]? = some s) : setOf (H := Unit) (.lit (.bool true)) ((L.take (k + 1)).map klS) = (setOf (.lit (.bool true)) ((L.take k).map klS)).put (klS s) (.lit (.bool true)) := by
  rw [List.take_add_one, h]
  simp only [Option.toList_some, List.map_append, List.map_cons, List.map_nil]
  exact setOf_snoc _ _ _
theorem sizeC_any (A : Option Addr) (n c : Nat) (w : World) : Calls Tryz.prog 60 #[.slice A n c] w fun e w' => e = .returned (.int .i64 (n : Int)) ∧ w = w' := by
  go_enter Tryz.func60, Tryz.ntmps60
  go_wp2
  go_ret
  exact ⟨rfl, rfl⟩
set_option maxRecDepth 100000 in
set_option maxHeartbeats 4000000 in
theorem checkPeriod_any (A : Option Addr) (c : Nat) (xs : List Int) (w : World) (hx : RdC w w.heap.size A c xs) (hb : ∀ x ∈ xs, -1000000000 ≤ x ∧ x ≤ 1000000000) (hm : xs.length ≤ 420) :
    Calls Tryz.prog 33 #[.slice A xs.length c] w fun e w' => e = .returned (.bool (peB xs)) ∧ Below w.heap.size w w' := by
  obtain ⟨hx1, hx2, hx3⟩ := hx
  unfold maxLen at hx3
  have HU : Hid (peB xs = (decide (6 ≤ xs.length) && (decide (0 ≤ xs.getD 3 0) && (decide (1 ≤ xs.getD 4 0) && (decide (xs.getD 3 0 + xs.getD 4 0 = (xs.length : Int) - 5) && (match along (xs.getD 0 0, xs.getD 1 0, xs.getD 2 0) (xs.drop 5) with
    | none => false
    | some L => decide ((L.take (L.length - 1)).Nodup) && (L.getD (L.length - 1) (0, 0, 0) == L.getD (xs.getD 3 0).toNat (0, 0, 0)))))))) := rfl
  have EB := Lib.hid (Below.refl w.heap.size w)
  by_cases h6 : 6 ≤ xs.length
  · rw [decide_eq_true h6, Bool.true_and] at HU
    have d6 : decide ((xs.length : Int) < 6) = false := by simp; omega
    obtain ⟨b, off, rfl, hbl, hc⟩ := hx1 (by omega)
    have c0 := hc 0 _ (getD_ofC (show 0 < xs.length by omega))
    have c1 := hc 1 _ (getD_ofC (show 1 < xs.length by omega))
    have c2 := hc 2 _ (getD_ofC (show 2 < xs.length by omega))
    have c3 := hc 3 _ (getD_ofC (show 3 < xs.length by omega))
    have c4 := hc 4 _ (getD_ofC (show 4 < xs.length by omega))
    rw [Nat.add_zero] at c0
    have hd3 := hb _ (List.mem_of_getElem? (getD_ofC (show 3 < xs.length by omega)))
    have hd4 := hb _ (List.mem_of_getElem? (getD_ofC (show 4 < xs.length by omega)))
    have HRD : Hid (∀ W, Below w.heap.size w W → Rd (Value.int .i64) W W.heap.size (some ⟨b, off + 5, none⟩) (xs.drop 5)) := fun W hW => ((drop_rd hbl hc).below hW).more hW.size
    have HCK : Hid (∀ W, Below w.heap.size w W → (W.cell? ⟨b, off, none⟩ = some (.int .i64 (xs.getD 0 0)) ∧ W.cell? ⟨b, off + 1, none⟩ = some (.int .i64 (xs.getD 1 0)) ∧ W.cell? ⟨b, off + 2, none⟩ = some (.int .i64 (xs.getD 2 0))) ∧ W.cell? ⟨b, off + 3, none⟩ = some (.int .i64 (xs.getD 3 0)) ∧ W.cell? ⟨b, off + 4, none⟩ = some (.int .i64 (xs.getD 4 0))) := fun W hW => ⟨⟨(hW.cell (p := ⟨b, off, none⟩) hbl).trans c0, (hW.cell (p := ⟨b, off + 1, none⟩) hbl).trans c1, (hW.cell (p := ⟨b, off + 2, none⟩) hbl).trans c2⟩, (hW.cell (p := ⟨b, off + 3, none⟩) hbl).trans c3, (hW.cell (p := ⟨b, off + 4, none⟩) hbl).trans c4⟩
    have HLD : Hid (xs.length - 5 = (xs.drop 5).length) := by simp [Hid]
    have hds : (xs.drop 5).length ≤ 1000 := by rw [List.length_drop]; omega
    have j3 : (5 : Int) ≤ (xs.length : Int) := by omega
    have n0 : 0 < xs.length := by omega
    have nc3 : ¬ (c = 5) := by omega
    have n1 : 1 < xs.length := by omega
    have n2 : 2 < xs.length := by omega
    have n3 : 3 < xs.length := by omega
    have n4 : 4 < xs.length := by omega
    have m1 : (1 : Int) < (xs.length : Int) := by omega
    have m2 : (2 : Int) < (xs.length : Int) := by omega
    have m3 : (3 : Int) < (xs.length : Int) := by omega
    have m4 : (4 : Int) < (xs.length : Int) := by omega
    have j3c : (5 : Int) ≤ (c : Int) := by omega
    have jlc : (xs.length : Int) ≤ (c : Int) := by omega
    clear hc hb hx1
    generalize xs.getD 0 0 = p at *
    generalize xs.getD 1 0 = d at *
    generalize xs.getD 2 0 = q at *
    generalize xs.getD 3 0 = h at *
    generalize xs.getD 4 0 = t at *
    obtain ⟨D1, D2⟩ := hd3
    obtain ⟨D3, D4⟩ := hd4
    have k3 : ∀ x os, (grow (redrawn w x) os).cell? ⟨b, off + 3, none⟩ = some (.int .i64 h) := cell_regrown c3
    have k4 : ∀ x os, (grow (redrawn w x) os).cell? ⟨b, off + 4, none⟩ = some (.int .i64 t) := cell_regrown c4
    have v1 : IntKind.i64.wrap (h + t) = h + t := IntWalk.i64_in _ (by omega)
    have v2 : IntKind.i64.wrap ((xs.length : Int) - 5) = (xs.length : Int) - 5 := IntWalk.i64_in _ (by omega)
    clear c0 c1 c2 c3 c4
    by_cases h0 : 0 ≤ h
    · have t0 : decide (h < 0) = false := by simp; omega
      by_cases h1 : 1 ≤ t
      · have t1 : decide (t < 1) = false := by simp; omega
        by_cases h2 : h + t = (xs.length : Int) - 5
        · have t2 : (h + t != (xs.length : Int) - 5) = false := by simpa using h2
          rw [decide_eq_true h0, decide_eq_true h1, decide_eq_true h2, Bool.true_and, Bool.true_and, Bool.true_and] at HU
          obtain ⟨j, rfl⟩ : ∃ j : Nat, h = (j : Int) := ⟨h.toNat, by omega⟩
          rw [Int.toNat_natCast] at HU
          have hjl : j + 6 ≤ xs.length := by omega
          have H2 := Lib.hid h2
          clear h2
          go_enter Tryz.func33, Tryz.ntmps33
          go_wp2_with fail
          refine wp_region_quiet_below (by kernel_rfl) (by kernel_rfl) ?_
          repeat (first | go_big_quiet_step ((with_reducible exact regrown_same (sizeC_any _ _ _ _))) | quiet_step ((with_reducible exact regrown_same (sizeC_any _ _ _ _))))
          refine wpQuiet_nil ?_
          intro _ hw'
          obtain ⟨⟨dq, oq⟩, hw''⟩ := hw'
          subst hw''
          have W1E := Lib.hid (below_regrown w dq oq)
          clear k3 k4 v1 v2 t0 t1 t2
          generalize hW1 : grow (redrawn w dq) oq = w1 at *
          clear hW1
          have ED := Lib.hid (ext_drew W1E.out)
          rcases Option.eq_none_or_eq_some (along (p, d, q) (xs.drop 5)) with hR | ⟨L, hR⟩
          · rw [hR] at HU
            have HSB := Lib.hid (surdsBy_none (c := c - 5) (HRD.out _ ED.out) hds HLD.out hR)
            unfold surdV at HSB
            clear hR
            go_wp2_with fail
            go_region_held3 (fun w' => w'.cell? ⟨b, off, none⟩ = some (.int .i64 p) ∧ w'.cell? ⟨b, off + 1, none⟩ = some (.int .i64 d) ∧ w'.cell? ⟨b, off + 2, none⟩ = some (.int .i64 q))
              (first | exact (HCK.out _ ED.out).1 | exact (HCK.out _ (ext_trans ED.out hb5)).1)
              (first | (go_at_call 71; (with_reducible refine HSB.out.mono ?_); rintro e w5 ⟨A5, c5, rfl, hb5⟩))
            all_goals
              have HB5 := Lib.hid (ext_trans ED.out hb5)
              clear hb5
              go_wp2
              go_ret
              exact ⟨ret_bool HU.out.symm, HB5.out⟩
          · rw [hR] at HU
            have hLl := along_len hR
            have HOKL := Lib.hid (along_ok hR)
            obtain ⟨m, hLm⟩ : ∃ m, L.length = m + 2 := ⟨xs.length - 6, by rw [hLl, List.length_drop]; omega⟩
            have hml : xs.length = m + 6 := by rw [List.length_drop] at hLl; omega
            have HSB := Lib.hid (surdsBy_some (c := c - 5) (HRD.out _ ED.out) hds HLD.out hR (m + 2) hLm)
            have HLM := Lib.hid hLm
            have HML := Lib.hid hml
            have hjm : j ≤ m := by omega
            have hmb : m ≤ 420 := by omega
            have HUP : Hid (peB xs = (decide ((L.take (m + 1)).Nodup) && (L.getD (m + 1) (0, 0, 0) == L.getD j (0, 0, 0)))) := by
              unfold Hid
              rw [HU.out]
              show (decide ((L.take (L.length - 1)).Nodup) && (L.getD (L.length - 1) (0, 0, 0) == L.getD j (0, 0, 0))) = _
              rw [hLm]
              rfl
            have q3 := Tryz.eqGuardType46
            have q4 := Tryz.stoodInHeld46
            have hmm := @run_makeMap Tryz.prog
            unfold surdV at HSB
            clear hR hLl hLm hml hds HU
            go_wp2_with fail
            go_region_held3 (fun w' => w'.cell? ⟨b, off, none⟩ = some (.int .i64 p) ∧ w'.cell? ⟨b, off + 1, none⟩ = some (.int .i64 d) ∧ w'.cell? ⟨b, off + 2, none⟩ = some (.int .i64 q))
              (first | exact (HCK.out _ ED.out).1 | exact (HCK.out _ (ext_trans ED.out hb5)).1)
              (first | (go_at_call 71; (with_reducible refine HSB.out.mono ?_); rintro e w5 ⟨A5, c5, rfl, hw5, ⟨hc5, hc5m⟩, hb5⟩))
            obtain ⟨b5, off5, rfl, hb5l, hb5h, hcc5, _⟩ := hw5 (by rw [sdL_length, HLM.out]; omega)
            have HB5 := Lib.hid (ext_trans ED.out hb5)
            have HCC := Lib.hid hcc5
            unfold maxLen at hc5m
            clear hb5 hcc5 HSB
            have jm1 : (0 : Int) ≤ (m : Int) + 1 := by omega
            have jm2 : (m : Int) + 1 ≤ (c5 : Int) := by omega
            have HM0 : Hid ((w5.alloc (.map #[] 0)).ownsMap Tryz.prog 46 (plainElem Tryz.prog 4) w5.heap.size 0 (setOf (H := Unit) (.lit (.bool true)) ((L.take 0).map klS))) := by
              have h := World.ownsMap_made (H := Unit) w5 Tryz.prog 46 (plainElem Tryz.prog 4)
              unfold Hid
              simpa [setOf] using h
            have hE0 := Lib.hid (ext1 w5 (.map #[] 0))
            have hlt0 : w5.heap.size < (w5.alloc (.map #[] 0)).heap.size := by simp
            go_wp2_with fail
            generalize w5.alloc (.map #[] 0) = W6 at *
            clear hmm
            go_loopw [63] (fun t wr => ∃ k : Nat, k ≤ m + 1 ∧ t = .int .i64 k ∧ Hid (wr.ownsMap Tryz.prog 46 (plainElem Tryz.prog 4) w5.heap.size k (setOf (H := Unit) (.lit (.bool true)) ((L.take k).map klS))) ∧ Hid (Below w5.heap.size w5 wr) ∧ w5.heap.size < wr.heap.size) (fun t _ => m + 1 - (intOf t).toNat)
            case atStart => exact ⟨0, by omega, rfl, HM0.out, hE0.out, hlt0⟩
            case round =>
              obtain ⟨k, hk, rfl, HM, HB6, hlt6⟩ := hrel
              clear HM0 hE0 hlt0
              have kk0 : (0 : Int) ≤ (k : Int) := by omega
              by_cases hlt : k < m + 1
              · have hLk := getD_ofL (show k < L.length by rw [HLM.out]; omega)
                obtain ⟨g0, g1, g2⟩ := sdL_get hLk
                have y0 := (HB6.out.cell (p := ⟨b5, off5 + k * 3, none⟩) hb5h).trans (HCC.out _ _ g0)
                have y1 := (HB6.out.cell (p := ⟨b5, off5 + (k * 3 + 1), none⟩) hb5h).trans (HCC.out _ _ g1)
                have y2 := (HB6.out.cell (p := ⟨b5, off5 + (k * 3 + 2), none⟩) hb5h).trans (HCC.out _ _ g2)
                rw [← Nat.add_assoc] at y1 y2
                have HOK := Lib.hid (HOKL.out _ (List.mem_of_getElem? hLk))
                have HSN := Lib.hid (set_snoc hLk)
                have i1 : (k : Int) < (m : Int) + 1 := by omega
                have i2 : k < m + 1 := hlt
                clear g0 g1 g2 hLk
                obtain ⟨⟨s1, s2, s3⟩, hs⟩ : ∃ s, L.getD k (0, 0, 0) = s := ⟨_, rfl⟩
                rw [hs] at y0 y1 y2 HOK HSN
                clear hs hlt
                have HK : Hid (keyOf Tryz.prog 46 (.agg #[.int .i64 s1, .int .i64 s2, .int .i64 s3]) = some (klS (s1, s2, s3))) := klS_key HOK.out
                have HMA := Lib.hid (HM.out.alloc (.cells #[.int .i64 s1, .int .i64 s2, .int .i64 s3] 46))
                have HBA := Lib.hid (HB6.out.alloc HB6.out.size (.cells #[.int .i64 s1, .int .i64 s2, .int .i64 s3] 46))
                have hvi : plainElem (H := Unit) Tryz.prog 4 (.bool true) = some (.lit (.bool true), []) := plainElem_bool Tryz.underlying4 true
                have HVI := Lib.hid hvi
                clear hvi HM
                go_wp2_with (at_mapUpdate; refine wpList_mapUpdate_own _ rfl _ _ _ 99 rfl _ _ keyedSurd Tryz.underlying99 _ w5.heap.size k _ rfl HMA.out (by unfold maxLen; omega) _ _ _ rfl rfl HK.out _ [] HVI.out ?_; intro w7 hown7 hgr7; refine Hid.out ?_)
                refine Lib.hid ?_
                rw [← HSN.out] at hown7
                have HM7 := Lib.hid hown7
                have HB7 := Lib.hid (HBA.out.grown hgr7 HBA.out.size (fun b hb => by injection hb with hb; omega))
                have hsz7 := hgr7.size
                have hlt7 : w5.heap.size < w7.heap.size := by (try simp at hsz7); omega
                clear hown7 hgr7 hsz7
                go_wp2
                go_roundw
                case rel => (repeat apply Exists.intro); exact ⟨⟨k + 1, by omega, by go_num, HM7.out, HB7.out, hlt7⟩, rfl⟩
                case measure => simp [intOf]; omega
              · have hk' : k = m + 1 := by omega
                have E6 := Lib.hid (HB5.out.trans (HB6.out.mono HB5.out.size))
                have HLT : Hid ((L.take (m + 1)).length = m + 1) := by unfold Hid; rw [List.length_take, HLM.out]; omega
                have HOT : Hid (∀ x ∈ L.take (m + 1), sdOk x = true) := fun x hx => HOKL.out x (List.mem_of_mem_take hx)
                obtain ⟨z1, z2⟩ := set_nodup HOT.out
                have HZ := Lib.hid z2
                have HD : Hid (∀ x os, (Builtin.len_ #[99] 3 #[.map (some w5.heap.size)]).run Tryz.prog (grow (redrawn wr x) os) = .ok (.int .i64 (size (setOf (H := Unit) (.lit (.bool true)) ((L.take (m + 1)).map klS)))) (grow (redrawn wr x) os)) := fun x os => by
                  have h0 := HM.out
                  rw [hk'] at h0
                  have h := h0.kept (grown_of (below_regrown wr x os)) (by simp)
                  exact h.len Tryz.underlying99 3
                rw [HLT.out] at z1 HZ
                generalize size (setOf (H := Unit) (.lit (.bool true)) ((L.take (m + 1)).map klS)) = z at *
                have hd := HD.out
                clear z2 HM
                have hL1 := getD_ofL (show m + 1 < L.length by rw [HLM.out]; omega)
                have hLj := getD_ofL (show j < L.length by rw [HLM.out]; omega)
                obtain ⟨g0, g1, g2⟩ := sdL_get hL1
                obtain ⟨g3, g4, g5⟩ := sdL_get hLj
                have HGC : Hid (∀ (o : Nat) (x : Int), (sdL L)[o]? = some x → ∀ y os, (grow (redrawn wr y) os).cell? ⟨b5, off5 + o, none⟩ = some (.int .i64 x)) := fun o x h => cell_regrown ((HB6.out.cell (p := ⟨b5, off5 + o, none⟩) hb5h).trans (HCC.out o x h))
                have y0 := HGC.out _ _ g0
                have y1 := HGC.out _ _ g1
                have y2 := HGC.out _ _ g2
                have y3 := HGC.out _ _ g3
                have y4 := HGC.out _ _ g4
                have y5 := HGC.out _ _ g5
                rw [← Nat.add_assoc] at y1 y2 y4 y5
                have k3 : ∀ x os, (grow (redrawn wr x) os).cell? ⟨b, off + 3, none⟩ = some (.int .i64 (j : Int)) := cell_regrown (HCK.out _ E6.out).2.1
                clear g0 g1 g2 g3 g4 g5 hL1 hLj
                generalize hs1 : L.getD (m + 1) (0, 0, 0) = sa at *
                generalize hs2 : L.getD j (0, 0, 0) = sb at *
                obtain ⟨a1, a2, a3⟩ := sa
                obtain ⟨b1, b2, b3⟩ := sb
                have i1 : ¬ (k : Int) < (m : Int) + 1 := by omega
                have i2 : (m : Int) + 1 < (m : Int) + 2 := by omega
                have i3 : m + 1 < m + 2 := by omega
                have i4 : (j : Int) < (m : Int) + 2 := by omega
                have i5 : j < m + 2 := by omega
                have i6 : (0 : Int) ≤ (j : Int) := by omega
                have HV : Hid (((a1, a2, a3) == (b1, b2, b3)) = ((a1 == b1) && ((a2 == b2) && (a3 == b3)))) := by
                  unfold Hid
                  rw [Bool.eq_iff_iff]
                  simp
                rw [HV.out] at HUP
                clear hs1 hs2 HD HGC hlt hk'
                by_cases hz : z = m + 1
                · have hnd := HZ.out.1 hz
                  have e1 : ((z : Int) == (m : Int) + 1) = true := by simp; omega
                  have e1b : ((z : Int) == (m : Int) + 2 - 1) = true := by simp; omega
                  rw [decide_eq_true hnd, Bool.true_and] at HUP
                  clear hnd HZ hz
                  cases f1 : (a1 == b1)
                  · go_wp2_with fail
                    refine wp_region_quiet_below (by kernel_rfl) (by kernel_rfl) ?_
                    go_big_quiet_step (fail)
                    refine wpQuiet_len_map rfl _ _ rfl w5.heap.size (z : Int) rfl (fun w' hw' => by obtain ⟨pp, hpp⟩ := hw'; subst hpp; exact hd pp.d pp.os) ?_
                    simp only [Act.put, List.setIfInBounds_toArray, List.set_cons_zero, List.set_cons_succ]
                    repeat (first | go_big_quiet_step (fail) | quiet_step (fail))
                    refine wpQuiet_nil ?_
                    intro _ hw'
                    obtain ⟨⟨dq, oq⟩, hw''⟩ := hw'
                    subst hw''
                    go_wp2
                    go_ret
                    exact ⟨ret_bool (by rw [HUP.out, f1]; rfl), ext_trans E6.out (below_regrown _ _ _)⟩
                  · cases f2 : (a2 == b2)
                    · go_wp2_with fail
                      refine wp_region_quiet_below (by kernel_rfl) (by kernel_rfl) ?_
                      go_big_quiet_step (fail)
                      refine wpQuiet_len_map rfl _ _ rfl w5.heap.size (z : Int) rfl (fun w' hw' => by obtain ⟨pp, hpp⟩ := hw'; subst hpp; exact hd pp.d pp.os) ?_
                      simp only [Act.put, List.setIfInBounds_toArray, List.set_cons_zero, List.set_cons_succ]
                      repeat (first | go_big_quiet_step (fail) | quiet_step (fail))
                      refine wpQuiet_nil ?_
                      intro _ hw'
                      obtain ⟨⟨dq, oq⟩, hw''⟩ := hw'
                      subst hw''
                      go_wp2
                      go_ret
                      exact ⟨ret_bool (by rw [HUP.out, f1, f2]; rfl), ext_trans E6.out (below_regrown _ _ _)⟩
                    · cases f3 : (a3 == b3)
                      all_goals
                        go_wp2_with fail
                        refine wp_region_quiet_below (by kernel_rfl) (by kernel_rfl) ?_
                        go_big_quiet_step (fail)
                        refine wpQuiet_len_map rfl _ _ rfl w5.heap.size (z : Int) rfl (fun w' hw' => by obtain ⟨pp, hpp⟩ := hw'; subst hpp; exact hd pp.d pp.os) ?_
                        simp only [Act.put, List.setIfInBounds_toArray, List.set_cons_zero, List.set_cons_succ]
                        repeat (first | go_big_quiet_step (fail) | quiet_step (fail))
                        refine wpQuiet_nil ?_
                        intro _ hw'
                        obtain ⟨⟨dq, oq⟩, hw''⟩ := hw'
                        subst hw''
                        go_wp2
                        go_ret
                        exact ⟨ret_bool (by rw [HUP.out, f1, f2, f3]; rfl), ext_trans E6.out (below_regrown _ _ _)⟩
                · have hnd : ¬ (L.take (m + 1)).Nodup := fun h => hz (HZ.out.2 h)
                  have e1 : ((z : Int) == (m : Int) + 1) = false := by simp; omega
                  have e1b : ((z : Int) == (m : Int) + 2 - 1) = false := by simp; omega
                  rw [decide_eq_false hnd, Bool.false_and] at HUP
                  clear hnd HZ hz
                  go_wp2_with fail
                  refine wp_region_quiet_below (by kernel_rfl) (by kernel_rfl) ?_
                  go_big_quiet_step (fail)
                  refine wpQuiet_len_map rfl _ _ rfl w5.heap.size (z : Int) rfl (fun w' hw' => by obtain ⟨pp, hpp⟩ := hw'; subst hpp; exact hd pp.d pp.os) ?_
                  simp only [Act.put, List.setIfInBounds_toArray, List.set_cons_zero, List.set_cons_succ]
                  repeat (first | go_big_quiet_step (fail) | quiet_step (fail))
                  refine wpQuiet_nil ?_
                  intro _ hw'
                  obtain ⟨⟨dq, oq⟩, hw''⟩ := hw'
                  subst hw''
                  go_wp2
                  go_ret
                  exact ⟨ret_bool HUP.out.symm, ext_trans E6.out (below_regrown _ _ _)⟩
        · have t2 : (h + t != (xs.length : Int) - 5) = true := by simpa using h2
          rw [decide_eq_false h2, Bool.false_and, Bool.and_false, Bool.and_false] at HU
          clear h2
          go_enter Tryz.func33, Tryz.ntmps33
          go_wp2_with fail
          refine wp_region_quiet_below (by kernel_rfl) (by kernel_rfl) ?_
          repeat (first | go_big_quiet_step ((with_reducible exact regrown_same (sizeC_any _ _ _ _))) | quiet_step ((with_reducible exact regrown_same (sizeC_any _ _ _ _))))
          refine wpQuiet_nil ?_
          intro _ hw'
          obtain ⟨⟨dq, oq⟩, hw''⟩ := hw'
          subst hw''
          go_wp2
          go_ret
          exact ⟨ret_bool HU.out.symm, below_regrown _ _ _⟩
      · have t1 : decide (t < 1) = true := by simp; omega
        rw [decide_eq_false h1, Bool.false_and, Bool.and_false] at HU
        go_enter Tryz.func33, Tryz.ntmps33
        go_wp2_with fail
        refine wp_region_quiet_below (by kernel_rfl) (by kernel_rfl) ?_
        repeat (first | go_big_quiet_step ((with_reducible exact regrown_same (sizeC_any _ _ _ _))) | quiet_step ((with_reducible exact regrown_same (sizeC_any _ _ _ _))))
        refine wpQuiet_nil ?_
        intro _ hw'
        obtain ⟨⟨dq, oq⟩, hw''⟩ := hw'
        subst hw''
        go_wp2
        go_ret
        exact ⟨ret_bool HU.out.symm, below_regrown _ _ _⟩
    · have t0 : decide (h < 0) = true := by simp; omega
      rw [decide_eq_false h0, Bool.false_and] at HU
      go_enter Tryz.func33, Tryz.ntmps33
      go_wp2_with fail
      refine wp_region_quiet_below (by kernel_rfl) (by kernel_rfl) ?_
      repeat (first | go_big_quiet_step ((with_reducible exact regrown_same (sizeC_any _ _ _ _))) | quiet_step ((with_reducible exact regrown_same (sizeC_any _ _ _ _))))
      refine wpQuiet_nil ?_
      intro _ hw'
      obtain ⟨⟨dq, oq⟩, hw''⟩ := hw'
      subst hw''
      go_wp2
      go_ret
      exact ⟨ret_bool HU.out.symm, below_regrown _ _ _⟩
  · have HE : Hid (peB xs = false) := by rw [HU.out, decide_eq_false h6]; rfl
    have d6 : decide ((xs.length : Int) < 6) = true := by simp; omega
    rw [HE.out]
    go_enter Tryz.func33, Tryz.ntmps33
    go_wp2_with fail
    refine wp_region_quiet_below (by kernel_rfl) (by kernel_rfl) ?_
    repeat (first | go_big_quiet_step (fail) | quiet_step (fail))
    refine wpQuiet_nil ?_
    intro _ hw'
    obtain ⟨⟨dq, oq⟩, hw''⟩ := hw'
    subst hw''
    go_wp2
    go_ret
    exact ⟨rfl, below_regrown _ _ _⟩
end Go.Proofs.YtpgkellmhlmjeaaGreatDoor
namespace Go.Proofs.YtpgkellmhlmjeaaGreatDoor
open Go.RowKit Go.Sort
noncomputable def utC (d : Int) : Int := if pcC d = 0 then (if (unR d).isSome = true then 0 else 5) else pcC d
def RetUo (w : World) (R : Option (Int × Int)) (c : Int) (e : Ending) (w' : World) : Prop :=
  ∃ P0 P1 N : Int, e = .returned (.tuple #[pairV P0 P1, .int .i64 N, .int .i64 c]) ∧ (c = 0 → R = some (P0, P1)) ∧ Below w.heap.size w w'
theorem utC_bad {d : Int} (h : ¬ pcC d = 0) : utC d = pcC d := by simp [utC, h]
theorem utC_none {d : Int} (h : pcC d = 0) (h2 : unR d = none) : utC d = 5 := by simp [utC, h, h2]
theorem utC_some {d : Int} {p : Int × Int} (h : pcC d = 0) (h2 : unR d = some p) : utC d = 0 := by simp [utC, h, h2]
theorem utC_zero {d : Int} (h : utC d = 0) : pcC d = 0 ∧ ∃ p, unR d = some p := by
  by_cases h1 : pcC d = 0
  · refine ⟨h1, ?_⟩
    cases h2 : unR d with
    | none => rw [utC_none h1 h2] at h; omega
    | some p => exact ⟨p, rfl⟩
  · exact absurd ((utC_bad h1).symm.trans h) h1
theorem pcC_in (d : Int) : 0 ≤ pcC d ∧ pcC d ≤ 6 := by
  unfold pcC
  split <;> (try split) <;> omega
set_option maxRecDepth 100000 in
set_option maxHeartbeats 2000000 in
theorem utS_any (d : Int) (w : World) : Calls Tryz.prog 12 #[.int .i64 d] w (RetUo w (unR d) (utC d)) := by
  have HK := Lib.hid (fun W : World => l09D_any d W)
  have B2 : BoxV w.heap.size [.int .i64 0, .int .i64 0] (w.alloc (.cells #[.int .i64 0, .int .i64 0] 34)) := BoxV.new w #[.int .i64 0, .int .i64 0] 34
  have HB := Lib.hid (ext1 w (.cells #[.int .i64 0, .int .i64 0] 34))
  by_cases h0 : pcC d = 0
  · obtain ⟨h1, h2, h3⟩ := pcC_zero h0
    rw [h0] at HK
    have HU := Lib.hid (fun W : World => l09Unit_any d W h1 h2 h3)
    have HC0 : Hid (unR d = none → utC d = 5) := fun h => utC_none h0 h
    have HC1 : Hid (∀ p, unR d = some p → utC d = 0) := fun p h => utC_some h0 h
    clear h0 h1 h2 h3
    generalize utC d = cd at *
    generalize unR d = R at *
    cases R with
    | none =>
      have HC := Lib.hid (HC0.out rfl)
      clear HC0 HC1
      go_enter Tryz.func12, Tryz.ntmps12
      go_wp2_with fail
      refine (HK.out _).mono ?_
      rintro e w1 ⟨rfl, rfl⟩
      go_wp2_with fail
      refine (HU.out _).mono ?_
      rintro e w1 ⟨P0, P1, rfl, hP, hb1⟩
      have B3 := B2.next hb1
      have HB3 := Lib.hid (ext_trans HB.out hb1)
      simp only [Option.isSome_none]
      have B4 := B3.alloc (.cells #[.int .i64 P0, .int .i64 P1] 34)
      have HB4 := Lib.hid (ext_alloc HB3.out (.cells #[.int .i64 P0, .int .i64 P1] 34))
      have y0 := B4.at 0 _ rfl
      have y1 := B4.at 1 _ rfl
      have F0 := B4.f 0
      have F1 := B4.f 1
      obtain ⟨s0, s1⟩ := set_two y0 y1
      go_wp2
      exact bodyPost_ret (v := .tuple #[pairV 0 0, .int .i64 0, .int .i64 5]) (by simp [results, Tryz.results12, go_sem, s0, s1]; done) rfl ⟨0, 0, 0, by rw [HC.out], (fun h => by rw [HC.out] at h; omega), ext_set (ext_set HB4.out (by simp) _) (by simp) _⟩
    | some p =>
      obtain ⟨p1, p2⟩ := p
      have HC := Lib.hid (HC1.out _ rfl)
      clear HC0 HC1
      go_enter Tryz.func12, Tryz.ntmps12
      go_wp2_with fail
      refine (HK.out _).mono ?_
      rintro e w1 ⟨rfl, rfl⟩
      go_wp2_with fail
      refine (HU.out _).mono ?_
      rintro e w1 ⟨P0, P1, rfl, hP, hb1⟩
      have B3 := B2.next hb1
      have HB3 := Lib.hid (ext_trans HB.out hb1)
      simp only [Option.isSome_some]
      obtain ⟨rfl, rfl⟩ := hP _ _ rfl
      have k1 : IntKind.i64.wrap ((pdN d : Int).tmod 2 * 2) = (pdN d : Int).tmod 2 * 2 := by rw [Int.tmod_eq_emod_of_nonneg (by omega)]; exact IntWalk.i64_in _ (by omega)
      have k2 : IntKind.i64.wrap (1 - (pdN d : Int).tmod 2 * 2) = 1 - (pdN d : Int).tmod 2 * 2 := by rw [Int.tmod_eq_emod_of_nonneg (by omega)]; exact IntWalk.i64_in _ (by omega)
      have k3 : (pdN d : Int).tmod 2 = (pdN d : Int) % 2 := Int.tmod_eq_emod_of_nonneg (by omega)
      rw [k3] at k1 k2
      have B4 := B3.alloc (.cells #[.int .i64 P0, .int .i64 P1] 34)
      have B5 := BoxV.new w1 #[.int .i64 P0, .int .i64 P1] 34
      have HB4 := Lib.hid (ext_alloc HB3.out (.cells #[.int .i64 P0, .int .i64 P1] 34))
      have y0 := B4.at 0 _ rfl
      have y1 := B4.at 1 _ rfl
      have F0 := B4.f 0
      have F1 := B4.f 1
      have z0 := B5.at 0 _ rfl
      have z1 := B5.at 1 _ rfl
      obtain ⟨s0, s1⟩ := set_two y0 y1
      go_wp2
      exact bodyPost_ret (v := .tuple #[pairV P0 P1, .int .i64 (1 - (pdN d : Int) % 2 * 2), .int .i64 0]) (by simp [results, Tryz.results12, go_sem, s0, s1]; done) rfl ⟨P0, P1, (1 - (pdN d : Int) % 2 * 2), by rw [HC.out], (fun _ => rfl), ext_set (ext_set HB4.out (by simp) _) (by simp) _⟩
  · have HC := Lib.hid (utC_bad h0)
    rw [HC.out]
    have t0 : (pcC d != 0) = true := by simpa using h0
    have HZ := Lib.hid h0
    clear h0
    generalize pcC d = cd at *
    go_enter Tryz.func12, Tryz.ntmps12
    go_wp2_with fail
    refine (HK.out _).mono ?_
    rintro e w1 ⟨rfl, rfl⟩
    go_wp2
    exact bodyPost_ret (v := .tuple #[pairV 0 0, .int .i64 0, .int .i64 cd]) (by simp [results, Tryz.results12, go_sem]; done) rfl ⟨0, 0, 0, rfl, (fun h => absurd h HZ.out), HB.out⟩
end Go.Proofs.YtpgkellmhlmjeaaGreatDoor
