/- Parts of the proof, merged: CtxW SplW RdsW RcP PrvT RcW. No condition but those that each theorem names. -/
import Derived.Test.YtpgkellmhlmjeaaGreatDoorMgAT
import Derived.Test.YtpgkellmhlmjeaaGreatDoorMgAN
import Derived.Test.YtpgkellmhlmjeaaGreatDoorMgAI
import Derived.Deep.RegionHeld3
import Derived.Deep.RegionLaw
import Derived.Test.YtpgkellmhlmjeaaGreatDoorMgAB
import Derived.Laws.IdiomStrings
import Derived.Deep.LoopGhost
import Derived.Maps.AppendAt
namespace Go.Proofs.YtpgkellmhlmjeaaGreatDoor
open Go.RowKit Go.Sort
/-- The words of the kinds: gcd, root, linear, unit, period, best. -/
def ctWords : List ByteArray := [⟨#[103, 99, 100]⟩, ⟨#[114, 111, 111, 116]⟩, ⟨#[108, 105, 110, 101, 97, 114]⟩, ⟨#[117, 110, 105, 116]⟩, ⟨#[112, 101, 114, 105, 111, 100]⟩, ⟨#[98, 101, 115, 116]⟩]
/-- A certificate's text, up to k numbers. -/
def ctOut (d : ByteArray) (xs : List Int) : Nat → ByteArray
  | 0 => d
  | k + 1 => ctOut d xs k ++ ({ data := #[32] } ++ decB (xs.getD k 0))
theorem ctOut_size {d : ByteArray} {xs : List Int} (hd : d.size ≤ 6) (h : ∀ x ∈ xs, -1000000000 ≤ x ∧ x ≤ 1000000000) : ∀ k, k ≤ xs.length → (ctOut d xs k).size ≤ 6 + 22 * k
  | 0, _ => by simpa [ctOut] using hd
  | k + 1, hk => by
    have ih := ctOut_size hd h k (by omega)
    have hx : xs[k]? = some (xs[k]'(by omega)) := List.getElem?_eq_getElem (by omega)
    have hb := h _ (List.getElem_mem (show k < xs.length by omega))
    have hz := decB_size (n := xs[k]'(by omega)) (by omega) (by omega)
    have e1 : ∀ a b : ByteArray, (a ++ b).size = a.size + b.size := fun a b => ByteArray.size_append
    have e2 : ({ data := #[32] } : ByteArray).size = 1 := rfl
    unfold ctOut
    simp only [List.getD, hx, Option.getD_some]
    rw [e1, e1, e2]
    omega
/-- A certificate's text. -/
def ctB (kk : Int) (xs : List Int) : ByteArray := if bdC kk xs = true then ctOut (ctWords.getD (kk - 1).toNat ⟨#[]⟩) xs xs.length else ⟨#[]⟩
theorem certNames_any (w : World) : Calls Tryz.prog 111 #[] w fun e w' => e = .returned (.slice (some ⟨w.heap.size, 0, none⟩) 6 6) ∧ (∀ j x, ctWords[j]? = some x → w'.cell? ⟨w.heap.size, j, none⟩ = some (.string x)) ∧ Below w.heap.size w w' := by
  go_enter Tryz.func111, Tryz.ntmps111
  go_wp2
  go_ret
  refine ⟨rfl, fun j x hx => ?_, ext1 _ _⟩
  rw [cell_one]
  rcases j with _ | _ | _ | _ | _ | _ | j <;> simp [ctWords] at hx <;> subst hx <;> rfl
set_option maxHeartbeats 2000000 in
theorem iCertText_any (kk : Int) (A : Option Addr) (c : Nat) (xs : List Int) (w : World) (hx : Rd (Value.int .i64) w w.heap.size A xs) (hm : xs.length ≤ maxLen) (hT : Tab10 w) :
    Calls Tryz.prog 64 #[certV kk A xs.length c] w fun e w' => e = .returned (.string (ctB kk xs)) ∧ Below w.heap.size w w' := by
  have HX : Hid (∀ W, Below w.heap.size w W → Rd (Value.int .i64) W W.heap.size A xs) := fun W hb => (hx.below hb).more hb.size
  have HTT : Hid (∀ W, Below w.heap.size w W → Tab10 W) := fun W hb => hT.next hb
  have HB : Hid (∀ W, Below w.heap.size w W → Calls Tryz.prog 35 #[certV kk A xs.length c] W fun e w' => e = .returned (.bool (bdC kk xs)) ∧ Below W.heap.size W w') := fun W hb => isBoundedCert_any kk A c xs W (HX.out W hb) hm
  have HE : Hid (ctB kk xs = if bdC kk xs = true then ctOut (ctWords.getD (kk - 1).toNat ⟨#[]⟩) xs xs.length else ⟨#[]⟩) := rfl
  cases hv : bdC kk xs
  · rw [hv] at HB HE
    simp only [Bool.false_eq_true, if_false] at HE
    generalize ctB kk xs = R at *
    clear hx hT hv
    unfold certV at *
    go_enter Tryz.func64, Tryz.ntmps64
    go_wp2_with fail
    refine (HB.out _ (ext1 _ _)).mono ?_
    rintro e w1 ⟨rfl, hb1⟩
    go_wp2
    go_ret
    rw [HE.out]
    exact ⟨rfl, ext_trans (ext1 _ _) hb1⟩
  · rw [hv] at HB HE
    rw [if_pos rfl] at HE
    unfold bdC at hv
    rw [Bool.and_eq_true] at hv
    obtain ⟨k1, k2⟩ := inR_true.1 hv.1
    obtain ⟨hl, hbd⟩ := nbB_all hv.2
    have HBD := Lib.hid hbd
    obtain ⟨m, hm0⟩ : ∃ m : Nat, (kk - 1).toNat = m := ⟨_, rfl⟩
    have hm6 : m < 6 := by omega
    obtain ⟨d, hd⟩ : ∃ d, ctWords[m]? = some d := ⟨_, List.getElem?_eq_getElem (by simpa [ctWords] using hm6)⟩
    have hds : d.size ≤ 6 := by
      have : ∀ x ∈ ctWords, x.size ≤ 6 := by decide
      exact this d (List.mem_of_getElem? hd)
    have HE2 : Hid (ctB kk xs = ctOut d xs xs.length) := by
      have h := HE.out
      rw [hm0] at h
      unfold Hid
      rw [h]
      simp only [List.getD, hd, Option.getD_some]
    have HSZ := Lib.hid (ctOut_size hds hbd)
    have v1 : kk - 1 = (m : Int) := by omega
    have v2 : IntKind.i64.wrap (m : Int) = (m : Int) := IntWalk.i64_in _ (by omega)
    have i0 : (0 : Int) ≤ (m : Int) := by omega
    have i1 : (m : Int) < 6 := by omega
    have HD := Lib.hid hd
    generalize ctB kk xs = R at *
    clear hx hT hv HE hm0 hd hbd
    unfold certV at *
    have HBX := Lib.hid (BoxV.new w #[.int .i64 kk, .slice A xs.length c] 26)
    have E0 := Lib.hid (ext1 w (.cells #[.int .i64 kk, .slice A xs.length c] 26))
    go_enter Tryz.func64, Tryz.ntmps64
    go_wp2_with fail
    generalize w.alloc (.cells #[.int .i64 kk, .slice A xs.length c] 26) = W0 at *
    refine (HB.out _ E0.out).mono ?_
    rintro e w1 ⟨rfl, hb1⟩
    have B1 := Lib.hid (HBX.out.next hb1)
    have E1 := Lib.hid (ext_trans E0.out hb1)
    have x0 := B1.out.at 0 _ rfl
    have x1 := B1.out.at 1 _ rfl
    clear hb1 HBX E0
    go_wp2_with fail
    go_region_law (first
      | (go_simp; go_at_call 111; ((with_reducible refine (certNames_any _).mono ?_); rintro e w2 ⟨rfl, hws, hb2⟩; have B2 := B1.out.drew.next hb2; have z0 := B2.at 0 _ rfl; have z1 := B2.at 1 _ rfl; have cs : w2.cell? ⟨w1.heap.size, m, none⟩ = some (.string d) := hws m d HD.out))
      | fail)
    all_goals
      have E2 := Lib.hid (ext_trans (ext_drew E1.out) hb2)
      clear x0 x1 z0 cs hws hb2 B1 E1 B2 HB hds
      go_wp2_with fail
      go_loopw [3, 18, 5] (fun t u v wr => ∃ k : Nat, k ≤ xs.length ∧ t = .string (ctOut d xs k) ∧ u = .int .i64 k ∧ Hid (Below w.heap.size w wr)) (fun _ u _ _ => xs.length - (intOf u).toNat)
      case atStart => exact ⟨0, by omega, rfl, rfl, E2.out⟩
      case round =>
        obtain ⟨k, hk, rfl, rfl, HE⟩ := hrel
        have hsz := HSZ.out k hk
        by_cases hlt : k < xs.length
        · obtain ⟨b, off, rfl, hb, hc⟩ := HX.out wr HE.out (by omega)
          obtain ⟨x, hxk⟩ : ∃ x, xs[k]? = some x := ⟨_, List.getElem?_eq_getElem hlt⟩
          have cx := hc k x hxk
          obtain ⟨b1, b2⟩ := HBD.out x (List.mem_of_getElem? hxk)
          have HC := Lib.hid (iDecimal_any x wr (by omega) (by omega) (HTT.out wr HE.out))
          have hdz := decB_size (n := x) (by omega) (by omega)
          have HS : Hid (ctOut d xs (k + 1) = ctOut d xs k ++ ({ data := #[32] } ++ decB x)) := by
            unfold Hid
            rw [ctOut]
            simp only [List.getD, hxk, Option.getD_some]
          have e1 : ∀ a b : ByteArray, (a ++ b).size = a.size + b.size := fun a b => ByteArray.size_append
          have e2 : ({ data := #[32] } : ByteArray).size = 1 := rfl
          generalize decB x = q at *
          generalize ctOut d xs k = o at *
          have z1 : ({ data := #[32] } ++ q : ByteArray).size ≤ 22 := by rw [e1, e2]; omega
          have z2 : (o ++ ({ data := #[32] } ++ q) : ByteArray).size ≤ 28 + 22 * k := by rw [e1]; omega
          have j0 : (0 : Int) ≤ (k : Int) := by omega
          have j1 : (k : Int) < (xs.length : Int) := by omega
          clear hc hxk e1 e2
          go_wp2_with fail
          refine HC.out.mono ?_
          rintro e w3 ⟨rfl, hb3⟩
          have HE3 := Lib.hid (ext_trans HE.out hb3)
          clear hb3
          go_wp2
          go_roundw
          case rel => exact ⟨k + 1, by omega, by rw [HS.out], by go_num, HE3.out⟩
          case measure => simp [intOf]; omega
        · have hkl : k = xs.length := by omega
          have HR : Hid (R = ctOut d xs k) := by rw [hkl]; exact HE2.out
          clear hkl
          go_wp2
          go_ret
          rw [HR.out]
          exact ⟨rfl, HE.out⟩
end Go.Proofs.YtpgkellmhlmjeaaGreatDoor
namespace Go.Proofs.YtpgkellmhlmjeaaGreatDoor
open Go.RowKit Go.Sort
theorem Split_at (s : ByteArray) (c : UInt8) (w : World) (hs : s.size < 4294967281) (hV : Vars w) :
    Calls Tryz.prog 108 #[.string s, .string ⟨#[c]⟩] w fun e w' => e = .returned (.slice (some ⟨w.heap.size, 0, none⟩) (spB c s).length (spB c s).length) ∧ (∀ j x, (spB c s)[j]? = some x → w'.cell? ⟨w.heap.size, j, none⟩ = some (.string x)) ∧ Below w.heap.size w w' ∧ w.heap.size < w'.heap.size := by
  obtain ⟨m, hm⟩ := hV.len
  refine (Tryz.strings_Split s ⟨#[c]⟩ m w hs hm (Nat.le_refl 1)).mono ?_
  rintro e w' ⟨rfl, rfl⟩
  refine ⟨by rw [spB_len], fun j x hx => ?_, ext1 _ _, by simp⟩
  rw [cell_one, splitB_spB]
  simp [hx]
end Go.Proofs.YtpgkellmhlmjeaaGreatDoor
namespace Go.Proofs.YtpgkellmhlmjeaaGreatDoor
open Go.RowKit Go.Sort
/-- What a call returns that reads words as numbers. -/
def RetNum (w : World) (R : Option (List Int)) (e : Ending) (w' : World) : Prop :=
  ∃ B c, e = .returned (.tuple #[.slice B (R.getD []).length c, .bool R.isSome]) ∧ Wr (Value.int .i64) w' w.heap.size B (R.getD []) ∧ Below w.heap.size w w'
/-- .. with its capacity. -/
def RetNumC (w : World) (R : Option (List Int)) (e : Ending) (w' : World) : Prop :=
  ∃ B c, e = .returned (.tuple #[.slice B (R.getD []).length c, .bool R.isSome]) ∧ Wr (Value.int .i64) w' w.heap.size B (R.getD []) ∧ Below w.heap.size w w' ∧ (R.getD []).length ≤ c ∧ c ≤ 1000000000
set_option maxRecDepth 100000 in
set_option maxHeartbeats 2000000 in
theorem readDecimals_cap (A : Option Addr) (c : Nat) (ws : List ByteArray) (w : World) (hx : Rd Value.string w w.heap.size A ws) (hl : ws.length ≤ 1000000000) (hsz : ∀ x ∈ ws, x.size ≤ 1000000000) (hV : Vars w) :
    Calls Tryz.prog 109 #[.slice A ws.length c] w (RetNumC w (numsB ws)) := by
  obtain ⟨i0, hi, hz0, hz1, hz2⟩ := info_parts info64
  have hmk : ∀ W : World, (Instr.makeSlice 24 (.int .i64 (ws.length : Int)) (.int .i64 (ws.length : Int))).run Tryz.prog W = .ok (.slice (some ⟨W.heap.size, 0, none⟩) ws.length ws.length) (W.alloc (.cells (madeCells #[.int .i64 0] ws.length) 2)) := fun W => by
    have h := run_make (P := Tryz.prog) W 24 2 i0 _ Tryz.underlying24 hi hz0 .i64 .i64 (ws.length : Int) (ws.length : Int) (by omega) (by omega) (by rw [hz2]; omega) (by omega)
    rw [hz1] at h
    simpa [Value.cells] using h
  have HSZ := Lib.hid hsz
  have HVV := Lib.hid (fun W (hb : Below w.heap.size w W) => hV.next hb)
  obtain ⟨R, hR⟩ : ∃ R, numsB ws = R := ⟨_, rfl⟩
  have HN : Hid (∀ k x, ws[k]? = some x → numB x = none → R = none) := fun k x h1 h2 => by rw [← hR]; exact nums_none h1 h2
  have HF : Hid (∀ ns, numsB (ws.take ws.length) = some ns → R = some ns) := fun ns h => by rw [← hR]; rwa [List.take_of_length_le (Nat.le_refl _)] at h
  rw [hR]
  clear hR hV hsz
  go_enter Tryz.func109, Tryz.ntmps109
  go_wp2_with fail
  have hms : (madeCells #[.int .i64 0] ws.length).size = ws.length := size_madeCells _ _
  obtain ⟨W, hW, h1, h2, h3, h4⟩ : ∃ W, W = w.alloc (.cells (madeCells #[.int .i64 0] ws.length) 2) ∧ Below w.heap.size w W ∧ w.heap.size < W.heap.size ∧ (∀ j, j < ws.length → ∃ v, W.cell? ⟨w.heap.size, j, none⟩ = some v) ∧ ∀ j, W.frozen? ⟨w.heap.size, j, none⟩ = false :=
    ⟨_, rfl, ext_alloc (Below.refl _ _) _, by simp, fun j hj => madeCell (by rw [hms]; exact hj), fun j => World.frozen?_alloc_at _ _ _ _ rfl⟩
  rw [← hW]
  clear hW hms
  have H3 := Lib.hid h3
  have H4 := Lib.hid h4
  clear h3 h4 hmk
  go_loopw [14] (fun t wr => ∃ (i : Nat) (ns : List Int), i ≤ ws.length ∧ t = .int .i64 i ∧ Hid (numsB (ws.take i) = some ns) ∧ Hid ((∀ j x, ns[j]? = some x → wr.cell? ⟨w.heap.size, j, none⟩ = some (.int .i64 x)) ∧ (∀ j, j < ws.length → ∃ v, wr.cell? ⟨w.heap.size, j, none⟩ = some v) ∧ (∀ j, wr.frozen? ⟨w.heap.size, j, none⟩ = false) ∧ Below w.heap.size w wr ∧ w.heap.size < wr.heap.size)) (fun t _ => ws.length - (intOf t).toNat)
  case atStart => exact ⟨0, [], by omega, rfl, rfl, fun j x h => by simp at h, H3.out, H4.out, h1, h2⟩
  case round =>
    obtain ⟨i, ns, hi', rfl, HNS, HR⟩ := hrel
    by_cases hlt : i < ws.length
    · obtain ⟨b, off, rfl, hb, hc⟩ := hx (by omega)
      obtain ⟨x, hxi⟩ : ∃ x, ws[i]? = some x := ⟨_, List.getElem?_eq_getElem hlt⟩
      have hci := (HR.out.2.2.2.1.cell (p := ⟨b, off + i, none⟩) hb).trans (hc i x hxi)
      have HX := Lib.hid hxi
      have hxs := HSZ.out x (List.mem_of_getElem? hxi)
      clear hc hxi
      have hln : ns.length = i := by
        have h := nums_len HNS.out
        rw [List.length_take] at h
        omega
      have HLN := Lib.hid hln
      clear hln
      obtain ⟨v, hv⟩ := HR.out.2.1 i hlt
      have i0 : (0 : Int) ≤ (i : Int) := by omega
      have i1 : (i : Int) < (ws.length : Int) := by omega
      have HC := Lib.hid (iReadDecimal_any x wr (by omega) (HVV.out wr HR.out.2.2.2.1))
      have hbd := num_bd_ x
      cases hk : numK x
      · have HQ := Lib.hid (HN.out i x HX.out (num_not hk))
        rw [hk] at HC
        generalize numN x = q at *
        clear hk
        go_wp2_with fail
        refine HC.out.mono ?_
        rintro e w1 ⟨rfl, hb1⟩
        have hB := ext_trans HR.out.2.2.2.1 hb1
        go_wp2
        go_ret2
        rw [HQ.out]
        exact ⟨none, 0, rfl, fun h => absurd h (by simp), hB, Nat.le_refl _, by omega⟩
      · have HQ := Lib.hid (num_of hk)
        rw [hk] at HC
        generalize numN x = q at *
        clear hk
        go_wp2_with fail
        refine HC.out.mono ?_
        rintro e w1 ⟨rfl, hb1⟩
        have HR1 : Hid ((∀ j x, ns[j]? = some x → w1.cell? ⟨w.heap.size, j, none⟩ = some (.int .i64 x)) ∧ (∀ j, j < ws.length → ∃ v, w1.cell? ⟨w.heap.size, j, none⟩ = some v) ∧ (∀ j, w1.frozen? ⟨w.heap.size, j, none⟩ = false) ∧ Below w.heap.size w w1 ∧ w.heap.size < w1.heap.size) := by
          obtain ⟨r1, r2, r3, r4, r5⟩ := HR.out
          have hz := hb1.size
          refine ⟨fun j x h => (hb1.cell (p := ⟨w.heap.size, j, none⟩) r5).trans (r1 j x h), fun j h => ?_, fun j => (hb1.frozen (p := ⟨w.heap.size, j, none⟩) r5).trans (r3 j), ext_trans r4 hb1, by omega⟩
          obtain ⟨v, hv⟩ := r2 j h
          exact ⟨v, (hb1.cell (p := ⟨w.heap.size, j, none⟩) r5).trans hv⟩
        clear HR hv hci hb1
        obtain ⟨v, hv⟩ := HR1.out.2.1 i hlt
        have hfi : w1.frozen? ⟨w.heap.size, i, none⟩ = false := HR1.out.2.2.1 _
        go_wp2
        go_roundw
        case rel =>
          obtain ⟨r1, r2, r3, r4, r5⟩ := HR1.out
          refine ⟨i + 1, ns ++ [q], by omega, by go_num, nums_take HNS.out HX.out HQ.out, fun j y hy => ?_, fun j hj => ?_, fun j => ?_, r4.setCell (Nat.le_refl _) _, by simpa using r5⟩
          · have hln := HLN.out
            rcases Nat.lt_or_ge j i with h | h
            · refine (World.cell?_setCell_other w1 ⟨w.heap.size, i, none⟩ ⟨w.heap.size, j, none⟩ _ ?_).trans (r1 j y ?_)
              · intro e; injection e; omega
              · rwa [List.getElem?_append_left (by omega)] at hy
            · have hj : j < (ns ++ [q]).length := (List.getElem?_eq_some_iff.1 hy).1
              rw [List.length_append] at hj
              simp at hj
              obtain rfl : j = i := by omega
              have e2 : q = y := by
                rw [List.getElem?_append_right (by omega), hln, Nat.sub_self] at hy
                simpa using hy
              rw [← e2]
              exact World.cell?_setCell_same _ _ _ hv
          · by_cases h : j = i
            · subst h; exact ⟨_, World.cell?_setCell_same _ _ _ hv⟩
            · obtain ⟨u, hu⟩ := r2 j hj
              refine ⟨u, (World.cell?_setCell_other w1 ⟨w.heap.size, i, none⟩ ⟨w.heap.size, j, none⟩ _ ?_).trans hu⟩
              intro e; injection e; omega
          · exact (World.frozen?_setCell _ _ _ _).trans (r3 j)
        case measure => simp [intOf]; omega
    · have hil : i = ws.length := by omega
      have HNS2 : Hid (numsB (ws.take ws.length) = some ns) := by rw [← hil]; exact HNS.out
      have HQ := Lib.hid (HF.out ns HNS2.out)
      have HLN : Hid (ns.length = ws.length) := by
        have h := nums_len HNS2.out
        rwa [List.take_of_length_le (Nat.le_refl _)] at h
      clear hil
      go_wp2
      go_ret2
      obtain ⟨r1, r2, r3, r4, r5⟩ := HR.out
      rw [HQ.out]
      refine ⟨some ⟨w.heap.size, 0, none⟩, ws.length, by rw [show (some ns).getD [] = ns from rfl, HLN.out]; rfl, fun _ => ⟨w.heap.size, 0, rfl, Nat.le_refl _, r5, fun j x hx => ?_, r3⟩, r4, by rw [show (some ns).getD [] = ns from rfl, HLN.out]; exact Nat.le_refl _, hl⟩
      rw [Nat.zero_add]
      exact r1 j x hx
theorem readDecimals_any (A : Option Addr) (c : Nat) (ws : List ByteArray) (w : World) (hx : Rd Value.string w w.heap.size A ws) (hl : ws.length ≤ 1000000000) (hsz : ∀ x ∈ ws, x.size ≤ 1000000000) (hV : Vars w) :
    Calls Tryz.prog 109 #[.slice A ws.length c] w (RetNum w (numsB ws)) :=
  (readDecimals_cap A c ws w hx hl hsz hV).mono fun _ _ ⟨B, c, h1, h2, h3, _⟩ => ⟨B, c, h1, h2, h3⟩
end Go.Proofs.YtpgkellmhlmjeaaGreatDoor
namespace Go.Proofs.YtpgkellmhlmjeaaGreatDoor
open Go.RowKit Go.Sort
/-- The index of the first word that is v; -1 if there is none. -/
def ixW (v : ByteArray) : List ByteArray → Nat → Int
  | [], _ => -1
  | x :: xs, i => if v = x then i else ixW v xs (i + 1)
theorem ixW_step {v : ByteArray} {xs : List ByteArray} {k : Nat} {x : ByteArray} (h : xs[k]? = some x) : ixW v (xs.drop k) k = if v = x then (k : Int) else ixW v (xs.drop (k + 1)) (k + 1) := by
  obtain ⟨h1, h2⟩ := List.getElem?_eq_some_iff.1 h
  rw [List.drop_eq_getElem_cons h1, h2]; rfl
theorem ixW_end {v : ByteArray} {xs : List ByteArray} {k : Nat} (h : ¬ k < xs.length) : ixW v (xs.drop k) k = -1 := by
  rw [List.drop_eq_nil_of_le (by omega)]; rfl
theorem ixW_bd (v : ByteArray) : ∀ (xs : List ByteArray) (i : Nat), -1 ≤ ixW v xs i ∧ ixW v xs i < i + xs.length ∧ (0 ≤ ixW v xs i → ∃ j : Nat, ixW v xs i = i + j ∧ xs[j]? = some v)
  | [], i => ⟨by simp [ixW], by simp [ixW]; omega, fun h => by simp [ixW] at h⟩
  | x :: xs, i => by
    obtain ⟨h1, h2, h3⟩ := ixW_bd v xs (i + 1)
    by_cases h : v = x
    · subst h
      simp only [ixW, if_true]
      exact ⟨by omega, by simp; omega, fun _ => ⟨0, by simp, by simp⟩⟩
    · simp only [ixW, if_neg h]
      refine ⟨h1, by simp; omega, fun g => ?_⟩
      obtain ⟨j, e1, e2⟩ := h3 g
      exact ⟨j + 1, by omega, by simpa using e2⟩
/-- The kind that a word tells; 0 if it tells none. -/
def kdW (v : ByteArray) : Int := ixW v ctWords 0 + 1
theorem kdW_bd (v : ByteArray) : 0 ≤ kdW v ∧ kdW v ≤ 6 := by
  obtain ⟨h1, h2, _⟩ := ixW_bd v ctWords 0
  have : ctWords.length = 6 := rfl
  unfold kdW
  omega
/-- What words tell as a certificate. -/
def rcW : List ByteArray → Option (Int × List Int)
  | [] => none
  | w :: ws => match numsB ws with
    | none => none
    | some ns => if bdC (kdW w) ns = true then some (kdW w, ns) else none
def rcK (R : Option (Int × List Int)) : Int := match R with | some (k, _) => k | none => 0
def rcX (R : Option (Int × List Int)) : List Int := match R with | some (_, xs) => xs | none => []
theorem rcW_none {w : ByteArray} {ws : List ByteArray} (h : numsB ws = none) : rcW (w :: ws) = none := by simp [rcW, h]
theorem rcW_ok {w : ByteArray} {ws : List ByteArray} {ns : List Int} (h : numsB ws = some ns) (hb : bdC (kdW w) ns = true) : rcW (w :: ws) = some (kdW w, ns) := by simp [rcW, h, hb]
theorem rcW_bad {w : ByteArray} {ws : List ByteArray} {ns : List Int} (h : numsB ws = some ns) (hb : bdC (kdW w) ns = false) : rcW (w :: ws) = none := by simp [rcW, h, hb]
theorem ctOut_data (d : ByteArray) (xs : List Int) : ∀ k, k ≤ xs.length → (ctOut d xs k).data.toList = d.data.toList ++ (xs.take k).flatMap fun x => 32 :: (decB x).data.toList
  | 0, _ => by simp [ctOut]
  | k + 1, hk => by
    have hx : xs[k]? = some (xs[k]'(by omega)) := List.getElem?_eq_getElem (by omega)
    have e : ∀ a b : ByteArray, (a ++ b).data.toList = a.data.toList ++ b.data.toList := fun a b => by simp [ByteArray.data_append]
    rw [ctOut, e, e, ctOut_data d xs k (by omega), List.take_add_one, hx]
    simp only [List.getD, hx, Option.getD_some, Option.toList_some, List.flatMap_append, List.append_assoc]
    congr 1
    simp
/-- A text that is read is the certificate's text. -/
theorem rc_text {s w : ByteArray} {ws : List ByteArray} {ns : List Int} (hs : spB 32 s = w :: ws) (hn : numsB ws = some ns) (hb : bdC (kdW w) ns = true) : ctB (kdW w) ns = s := by
  unfold ctB
  rw [if_pos hb]
  unfold bdC at hb
  rw [Bool.and_eq_true] at hb
  obtain ⟨k1, k2⟩ := inR_true.1 hb.1
  obtain ⟨_, _, h3⟩ := ixW_bd w ctWords 0
  have hkd : kdW w = ixW w ctWords 0 + 1 := rfl
  obtain ⟨j, e1, e2⟩ := h3 (by omega)
  have hj : (kdW w - 1).toNat = j := by omega
  rw [hj]
  simp only [List.getD, e2, Option.getD_some]
  have hd := ctOut_data w ns ns.length (Nat.le_refl _)
  rw [List.take_of_length_le (Nat.le_refl _)] at hd
  have hj := jn_spA 32 s.data.toList []
  unfold spB at hs
  cases hsp : spA 32 [] s.data.toList with
  | nil => rw [hsp] at hs; cases hs
  | cons p ps =>
    rw [hsp] at hs hj
    simp only [List.map_cons, List.cons.injEq] at hs
    obtain ⟨hs1, hs2⟩ := hs
    simp only [jnA, List.nil_append] at hj
    have ht := nums_text hn
    have : (ctOut w ns ns.length).data.toList = s.data.toList := by
      rw [hd, ← hj, ← hs1]
      congr 1
      have e3 : (ws.flatMap fun x => 32 :: x.data.toList) = ns.flatMap fun x => 32 :: (decB x).data.toList := by
        rw [ht, List.flatMap_map]
      rw [← e3, ← hs2, List.flatMap_map]
    rw [← back_bytes (ctOut w ns ns.length), this, back_bytes]
end Go.Proofs.YtpgkellmhlmjeaaGreatDoor
namespace Go.Proofs.YtpgkellmhlmjeaaGreatDoor
open Go.RowKit Go.Sort
theorem dc_noT (n : Int) : (32 : UInt8) ∉ (decB n).data.toList := fun h => by
  rw [dec_data] at h
  rcases List.mem_append.1 h with h | h
  · split at h
    · simp only [List.mem_cons, List.not_mem_nil, or_false] at h
      exact absurd h (by decide)
    · simp at h
  · have := dec_digit n.natAbs n.natAbs (Nat.le_refl _) _ h
    have e : (32 : UInt8).toNat = 32 := rfl
    omega
theorem spA_noT {c : UInt8} : ∀ (l acc : List UInt8), c ∉ l → spA c acc l = [acc ++ l]
  | [], acc, _ => by simp [spA]
  | b :: l, acc, h => by
    have hb : ¬ b = c := fun e => h (by simp [e])
    rw [spA, if_neg hb, spA_noT l (acc ++ [b]) (fun e => h (by simp [e]))]
    simp
theorem spA_atT {c : UInt8} : ∀ (a acc l : List UInt8), c ∉ a → spA c acc (a ++ c :: l) = (acc ++ a) :: spA c [] l
  | [], acc, l, _ => by simp [spA]
  | b :: a, acc, l, h => by
    have hb : ¬ b = c := fun e => h (by simp [e])
    rw [List.cons_append, spA, if_neg hb, spA_atT a (acc ++ [b]) l (fun e => h (by simp [e]))]
    simp
theorem nums_decsT : ∀ {ts : List Int}, (∀ t ∈ ts, -1000000000 ≤ t ∧ t ≤ 1000000000) → numsB (ts.map decB) = some ts
  | [], _ => rfl
  | t :: ts, h => by
    have h1 := h t (by simp)
    have ih := nums_decsT (ts := ts) fun u hu => h u (by simp [hu])
    have hn : numB (decB t) = some t := numB_some.2 ⟨rfl, by omega⟩
    rw [List.map_cons, numsB, hn, ih]
    rfl
theorem sp_words : ∀ (xs : List Int) (a : List UInt8), (32 : UInt8) ∉ a → spA 32 [] (a ++ xs.flatMap fun x => 32 :: (decB x).data.toList) = a :: xs.map fun x => (decB x).data.toList
  | [], a, h => by
    rw [List.flatMap_nil, List.append_nil, spA_noT a [] h]
    rfl
  | x :: xs, a, h => by
    rw [List.flatMap_cons, List.cons_append, spA_atT a [] _ h, sp_words xs _ (dc_noT x)]
    rfl
theorem ctw_no : ∀ j, j < 6 → (32 : UInt8) ∉ (ctWords.getD j ⟨#[]⟩).data.toList := by decide
theorem ctw_kd : ∀ j, j < 6 → kdW (ctWords.getD j ⟨#[]⟩) = (j : Int) + 1 := by decide
theorem ctw_sz : ∀ j, j < 6 → (ctWords.getD j ⟨#[]⟩).size ≤ 6 := by decide
theorem rc_back {kk : Int} {xs : List Int} (h : bdC kk xs = true) : rcW (spB 32 (ctB kk xs)) = some (kk, xs) ∧ (ctB kk xs).size ≤ 10000 := by
  have hb := h
  unfold bdC at hb
  rw [Bool.and_eq_true] at hb
  obtain ⟨k1, k2⟩ := inR_true.1 hb.1
  obtain ⟨hl, hbd⟩ := nbB_all hb.2
  obtain ⟨j, hj⟩ : ∃ j : Nat, (kk - 1).toNat = j := ⟨_, rfl⟩
  have hj6 : j < 6 := by omega
  have hkj : kk = (j : Int) + 1 := by omega
  have hct : ctB kk xs = ctOut (ctWords.getD j ⟨#[]⟩) xs xs.length := by
    unfold ctB
    rw [if_pos h, hj]
  have hd := ctOut_data (ctWords.getD j ⟨#[]⟩) xs xs.length (Nat.le_refl _)
  rw [List.take_of_length_le (Nat.le_refl _)] at hd
  rw [hct]
  constructor
  · unfold spB
    rw [hd, sp_words xs _ (ctw_no j hj6), List.map_cons, List.map_map]
    have e1 : (⟨(ctWords.getD j ⟨#[]⟩).data.toList.toArray⟩ : ByteArray) = ctWords.getD j ⟨#[]⟩ := back_bytes _
    have e2 : xs.map ((fun l : List UInt8 => (⟨l.toArray⟩ : ByteArray)) ∘ fun x => (decB x).data.toList) = xs.map decB := by
      apply List.map_congr_left
      intro x _
      exact back_bytes _
    rw [e1, e2]
    have hk := ctw_kd j hj6
    rw [← hkj] at hk
    have := rcW_ok (w := ctWords.getD j ⟨#[]⟩) (nums_decsT hbd) (by rw [hk]; exact h)
    rw [hk] at this
    exact this
  · have := ctOut_size (ctw_sz j hj6) hbd xs.length (Nat.le_refl _)
    omega
end Go.Proofs.YtpgkellmhlmjeaaGreatDoor
namespace Go.Proofs.YtpgkellmhlmjeaaGreatDoor
open Go.RowKit Go.Sort Go.Maps Go.WideMaps
/-- What a call returns that reads a certificate. -/
def RetRc (w : World) (kk : Int) (xs : List Int) (ok : Bool) (e : Ending) (w' : World) : Prop :=
  ∃ B c, e = .returned (.tuple #[certV kk B xs.length c, .bool ok]) ∧ Wr (Value.int .i64) w' w.heap.size B xs ∧ Below w.heap.size w w'
set_option maxHeartbeats 1000000 in
theorem indexStr_any (A : Option Addr) (c : Nat) (ws : List ByteArray) (v : ByteArray) (w : World) (hx : Rd Value.string w w.heap.size A ws) (hm : ws.length ≤ maxLen) :
    Calls Tryz.prog 110 #[.slice A ws.length c, .string v] w fun e w' => e = .returned (.int .i64 (ixW v ws 0)) ∧ w = w' := by
  unfold maxLen at hm
  obtain ⟨R, hR⟩ : ∃ R, ixW v ws 0 = R := ⟨_, rfl⟩
  rw [hR]
  have HR : Hid (ixW v (ws.drop 0) 0 = R) := hR
  clear hR
  go_enter Tryz.func110, Tryz.ntmps110
  go_wp2_with fail
  go_loop [8] (fun t => ∃ k : Nat, k ≤ ws.length ∧ t = .int .i64 k ∧ Hid (ixW v (ws.drop k) k = R)) (fun t => ws.length - (intOf t).toNat)
  case atStart => exact ⟨0, by omega, rfl, HR.out⟩
  case round =>
    obtain ⟨k, hk, rfl, HK⟩ := hrel
    clear HR
    by_cases hlt : k < ws.length
    · obtain ⟨b, off, rfl, hb, hc⟩ := hx (by omega)
      obtain ⟨x, hxk⟩ : ∃ x, ws[k]? = some x := ⟨_, List.getElem?_eq_getElem hlt⟩
      have c1 := hc k x hxk
      have HS := Lib.hid (ixW_step (v := v) hxk)
      clear hc hxk
      have i0 : (0 : Int) ≤ (k : Int) := by omega
      have i1 : (k : Int) < (ws.length : Int) := by omega
      by_cases hvx : v = x
      · have HE : Hid ((k : Int) = R) := by
          have h := HK.out
          rw [HS.out, if_pos hvx] at h
          exact h
        have heq := strEqB hvx
        clear hvx
        go_wp2
        go_ret
        exact ⟨ret_int HE.out, rfl⟩
      · have HE : Hid (ixW v (ws.drop (k + 1)) (k + 1) = R) := by
          have h := HK.out
          rw [HS.out, if_neg hvx] at h
          exact h
        have heq := strNeB hvx
        clear hvx
        go_wp2
        go_round
        case rel => exact ⟨k + 1, by omega, by go_num, HE.out⟩
        case measure => simp [intOf]; omega
    · have HE : Hid (-1 = R) := (ixW_end hlt).symm.trans HK.out
      go_wp2
      go_ret
      exact ⟨ret_int HE.out, rfl⟩
section
variable {V : World} {b : Nat} {k : Int} {ns : List Int} {v : Value} {W W' : World}
end
end Go.Proofs.YtpgkellmhlmjeaaGreatDoor
