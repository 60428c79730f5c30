/- RulesFor: both walks. No condition but those that each theorem names. -/
import Derived.Test.YtdjnblkgeaphmaaRuleS
import Derived.Deep.AppendLies
import Derived.Deep.RegionHeld3
namespace Go.Proofs.Ytdjnblkgeaphmaa
open Go.RowKit Go.Sort

/-- The convergents whose cycle is no longer than most. -/
def rulesOf (ps : List (Int × Int)) (most : Int) : List (Int × Int) := ps.filter fun p => decide (p.2 ≤ most)
theorem rules_step {ps : List (Int × Int)} {k : Nat} {p q most : Int} (h : ps[k]? = some (p, q)) : rulesOf (ps.drop k) most = if q ≤ most then (p, q) :: rulesOf (ps.drop (k + 1)) most else rulesOf (ps.drop (k + 1)) most := by
  obtain ⟨h1, h2⟩ := List.getElem?_eq_some_iff.1 h
  rw [List.drop_eq_getElem_cons h1, h2]
  simp [rulesOf, List.filter_cons]
theorem rules_end {ps : List (Int × Int)} {k : Nat} {most : Int} (h : ¬ k < ps.length) : rulesOf (ps.drop k) most = [] := by
  rw [List.drop_eq_nil_of_le (by omega)]; rfl
theorem convs_length {ts : List Int} {p q x y : Int} {r : List (Int × Int)} : cvG ts p q x y = some r → r.length = ts.length := by
  induction ts generalizing p q x y r with
  | nil => intro h; injection h with h; subst h; rfl
  | cons t ts ih =>
    intro h
    rw [cvG] at h
    split at h
    · rw [Option.map_eq_some_iff] at h
      obtain ⟨r', h1, rfl⟩ := h
      simp [ih h1]
    · cases h
def rsPs (n d : Int) : List (Int × Int) := (convs (termsOf (n - 365 * d) d)).getD []
theorem rsPs_length {n d : Int} (d2 : d ≤ 1000000) : (rsPs n d).length ≤ 1000000 := by
  unfold rsPs
  cases h : convs (termsOf (n - 365 * d) d)
  · simp
  · have := convs_length h
    have h2 := expT_length d.toNat (n - 365 * d) d
    unfold termsOf at this
    simp only [Option.getD_some]
    omega
def ruC (n d most : Int) : Int := if lenOk n d = true then (if inR most 1 1000 = true then 0 else 2) else 1
def ruX (n d most : Int) : List (Int × Int) := if ruC n d most = 0 then rulesOf (rsPs n d) most else []
theorem ruX_length (n d most : Int) : (ruX n d most).length ≤ 1000000000000000 := by
  unfold ruX
  split
  · rename_i h
    unfold ruC at h
    split at h
    · rename_i h1
      have := rsPs_length (n := n) (lenOk_true.1 h1).2.1
      have := List.length_filter_le (fun p : Int × Int => decide (p.2 ≤ most)) (rsPs n d)
      unfold rulesOf
      omega
    · cases h
  · simp

theorem infoRu : (Try.prog.info? 60).map (fun i => (i.zero, i.size, i.bytes)) = some (some (.agg #[.int .i64 0, .int .i64 0, .int .i64 0]), 3, 24) := by kernel_rfl

/-- What holds of the rules on their way. -/
def OutR (w : World) (base : Nat) (out : List (Int × Int)) (v : Value) (wr : World) : Prop :=
  wr.ownsRow base 60 3 v out.length ((ruL out).map (Value.int .i64)) ∧ Below w.heap.size w wr ∧ base ≤ wr.heap.size
theorem OutR.next {w : World} {base : Nat} {out : List (Int × Int)} {v : Value} {wr w2 : World} (h : OutR w base out v wr) (hb : Below wr.heap.size wr w2) : OutR w base out v w2 :=
  ⟨own_below h.1 hb, ext_trans h.2.1 hb, Nat.le_trans h.2.2 hb.size⟩
theorem OutR.push {w : World} {base : Nat} {out : List (Int × Int)} {v : Value} {wr : World} (h : OutR w base out v wr) (hbase : w.heap.size ≤ base) {p q : Int} (v' : Value) (w3 : World) {o : Obj}
    (hown3 : w3.ownsRow base 60 3 v' (out.length + 1) ((ruL out).map (Value.int .i64) ++ [.int .i64 p, .int .i64 q, .int .i64 0])) (hg : (wr.alloc o).grownBy w3 v.ownBlock) : OutR w base (out ++ [(p, q)]) v' w3 := by
  obtain ⟨hown, hbel, hsz⟩ := h
  refine ⟨by simpa [ruL_snoc] using hown3, below_grown (ext_alloc hbel o) (hown.alloc o) hbase hg, ?_⟩
  have := hg.size
  simp at this
  omega
theorem ret_rules0 (w w' : World) (code : Int) (h : Below w.heap.size w w') : RetRules w [] code (.returned (.tuple #[.slice none 0 0, .int .i64 code])) w' := ⟨none, 0, rfl, fun h => absurd h (by simp [ruL]), h⟩
theorem OutR.ret {w W : World} {base : Nat} {out : List (Int × Int)} {v : Value} {wr : World} (h : OutR W base out v wr) (hb : Below w.heap.size w W) (hB : w.heap.size ≤ base) : RetRules w out 0 (.returned (.tuple #[v, .int .i64 0])) wr := by
  obtain ⟨hown, hbel, hsz⟩ := h
  obtain ⟨hn, A, c, rfl, hw⟩ := Wr.of_ownS hown
  exact ⟨A, c, rfl, hw.more hB, ext_trans hb hbel⟩

theorem isLen_is {n d : Int} {b : Bool} (h : lenOk n d = b) (w : World) : Calls Try.prog 109 #[fracV n d] w fun e w' => e = .returned (.bool b) ∧ Below w.heap.size w w' := h ▸ isLength_any n d w
theorem l24Year_is {n d : Int} {b : Bool} (h : lenOk n d = b) (w : World) : Calls Try.prog 114 #[fracV n d] w fun e w' => e = .returned (.bool b) ∧ Below w.heap.size w w' := h ▸ l24Year_any n d w

set_option maxHeartbeats 2000000 in
theorem iRules_good (n d most : Int) (w : World) (h : lenOk n d = true) (hm : inR most 1 1000 = true) (R : List (Int × Int)) (hR : rulesOf (rsPs n d) most = R) :
    Calls Try.prog 30 #[fracV n d, .int .i64 most] w (RetRules w R 0) := by
  obtain ⟨ti, hi, hz0, hz1, hz2⟩ := info_parts infoRu
  have HI := Lib.hid hi
  obtain ⟨hf, d2, n1, n2⟩ := lenOk_true.1 h
  obtain ⟨d1, _⟩ := fracOk_true.1 hf
  have hps := rsPs_length (n := n) d2
  have HL := Lib.hid h
  have HM := Lib.hid hm
  have HE := Lib.hid (fun W : World => expand_any (n - 365 * d) d W (by omega) (by omega) d1 (by omega))
  have hxl : (termsOf (n - 365 * d) d).length ≤ 1000000000 := by have := expT_length d.toNat (n - 365 * d) d; unfold termsOf; omega
  have HB : Hid (∀ t ∈ termsOf (n - 365 * d) d, bil t) := fun t ht => expT_bd d.toNat (n - 365 * d) d (by omega) (by omega) (by omega) (by omega) t ht
  have HP : Hid ((convs (termsOf (n - 365 * d) d)).getD [] = rsPs n d) := rfl
  have HR : Hid (rulesOf ((rsPs n d).drop 0) most = R) := hR
  clear hR h hm hi hf
  generalize rsPs n d = ps at *
  generalize termsOf (n - 365 * d) d = ts at *
  unfold fracV
  go_enter Try.func30, Try.ntmps30
  go_wp2_with fail
  refine (isLen_is HL.out _).mono ?_
  rintro e w1 ⟨rfl, hb1⟩
  obtain ⟨hc1, hf1⟩ := bcell hb1
  have hy1 := hb1.size
  (try simp at hy1)
  have hz1_0 : w.heap.size < w1.heap.size := by omega
  go_wp2_with (go_at_call 110; (with_reducible refine (within_is HM.out _).mono ?_); rintro e w' ⟨rfl, rfl⟩)
  refine (restOf_any _ _ _ d1 d2 n1 n2).mono ?_
  rintro e w2 ⟨rfl, hb2⟩
  go_wp2_with fail
  refine (HE.out _).mono ?_
  rintro e w3 ⟨A3, c3, rfl, hw3, hb3⟩
  go_wp2_with fail
  refine (convergents_any _ _ _ _ hw3.rd hxl HB.out).mono ?_
  rintro e w4 ⟨A4, c4, rfl, hw4, hb4⟩
  rw [HP.out] at hw4 ⊢
  have hbb : Below w.heap.size w w4 := by
    repeat (first | exact Below.refl _ _ | assumption | refine ext_alloc ?_ _ | refine ext_drew ?_ | refine ext_trans ?_ (by assumption))
  have hrd := hw4.rd
  have HW4 := Lib.hid hw4
  clear hw3 hw4 hb1 hb2 hb3 hb4 hc1 hf1
  go_wp2_with fail
  go_loopw [33, 9] (fun s v wr => ∃ (k : Nat) (out : List (Int × Int)), k ≤ ps.length ∧ s = .int .i64 k ∧ out.length ≤ k ∧ Hid (out ++ rulesOf (ps.drop k) most = R) ∧ Hid (OutR w4 w4.heap.size out v wr)) (fun s _ _ => ps.length - (intOf s).toNat)
  case atStart => exact ⟨0, [], by omega, rfl, by simp, by unfold Hid; rw [← HR.out]; simp, own_nil, Below.refl _ _, Nat.le_refl _⟩
  case round =>
    obtain ⟨k, out, hk, rfl, hok, HO, HV⟩ := hrel
    clear HR
    have hbe := HV.out.2.1
    by_cases hlt : k < ps.length
    · have hlen := ruL_length ps
      have hfl := frL_length ps
      obtain ⟨b, off, rfl, hb, hc⟩ := ((hrd.below hbe).more hbe.size) (by omega)
      obtain ⟨⟨p, q⟩, hpk⟩ : ∃ x, ps[k]? = some x := ⟨_, List.getElem?_eq_getElem hlt⟩
      obtain ⟨g0, g1⟩ := frL_get hpk
      have c0 := hc _ _ g0
      have c1 := hc _ _ g1
      rw [← Nat.add_assoc] at c1
      have HS := Lib.hid (rules_step (most := most) hpk)
      have i0 : (0 : Int) ≤ (k : Int) := by omega
      have i1 : (k : Int) < (ps.length : Int) := by omega
      clear hc hpk g0 g1 hlen hfl
      by_cases hq : q ≤ most
      · have HN : Hid ((out ++ [(p, q)]) ++ rulesOf (ps.drop (k + 1)) most = R) := by
          have h := HO.out
          rw [HS.out, if_pos hq] at h
          unfold Hid
          rw [List.append_assoc]
          exact h
        clear HO HS
        have HV1 := Lib.hid (OutR.next HV.out (ext1 wr (.cells #[.int .i64 p, .int .i64 q] 25)))
        have hown := HV1.out.1
        have hbz := HV.out.2.2
        go_wp2_with (at_builtin; refine wpList_append_own _ rfl _ _ 56 rfl w4.heap.size 60 ti (.agg #[.int .i64 0, .int .i64 0, .int .i64 0]) 3 24 Try.underlying56 HI.out hz0 hz1 hz2 rfl (by decide) _ _ _ rfl (hown.alloc _) ⟨wr.heap.size + 1, 0, none⟩ 1 1 [.int .i64 p, .int .i64 q, .int .i64 0] rfl rfl ?c1 ?c2 ?c3 ?c4 ?c5 ?_)
        case c2 => simp [Value.oneCell']
        case c3 => unfold maxLen; omega
        case c4 => omega
        case c5 => omega
        intro v' w6 hown3 hgrow _
        have HV3 := OutR.push HV1.out (Nat.le_refl _) _ _ hown3 hgrow
        clear hown3 hgrow hown
        go_wp2
        go_roundw
        case rel => exact ⟨k + 1, _, by omega, by go_num, by simp; omega, HN.out, HV3⟩
        case measure => simp [intOf]; omega
      · have HN : Hid (out ++ rulesOf (ps.drop (k + 1)) most = R) := by
          have h := HO.out
          rw [HS.out, if_neg hq] at h
          exact h
        clear HO HS
        go_wp2
        go_roundw
        case rel => exact ⟨k + 1, out, by omega, by go_num, by omega, HN.out, OutR.next HV.out (ext1 _ _)⟩
        case measure => simp [intOf]; omega
    · have HF : Hid (R = out) := by
        have h := HO.out
        rw [rules_end hlt, List.append_nil] at h
        exact h.symm
      go_wp2
      go_ret2
      rw [HF.out]
      exact OutR.ret HV.out hbb hbb.size
theorem make_rest {n d : Int} (h : lenOk n d = true) : qN (n - 365 * d) d = n - 365 * d ∧ qD (n - 365 * d) d = d := by
  obtain ⟨hf, d2, n1, n2⟩ := lenOk_true.1 h
  obtain ⟨d1, _, _, _, hg⟩ := fracOk_true.1 hf
  have hg2 : Int.gcd (n - 365 * d) d = 1 := by rw [Int.gcd_sub_mul_right_left]; exact hg
  unfold qN qD
  rw [hg2]
  refine ⟨?_, ?_⟩
  · rw [if_neg (by omega)]; simp
  · simp; omega

/-- Two cells of an old block. -/
def CS (b i j : Nat) (p q : Int) (V W : World) : Prop := W.cell? ⟨b, i, none⟩ = some (.int .i64 p) ∧ W.cell? ⟨b, j, none⟩ = some (.int .i64 q) ∧ Below V.heap.size V W
theorem CS.of {b i j : Nat} {p q : Int} {V W : World} (hb : b < V.heap.size) (h0 : V.cell? ⟨b, i, none⟩ = some (.int .i64 p)) (h1 : V.cell? ⟨b, j, none⟩ = some (.int .i64 q)) (k : Below V.heap.size V W) : CS b i j p q V W :=
  ⟨(k.cell (p := ⟨b, i, none⟩) hb).trans h0, (k.cell (p := ⟨b, j, none⟩) hb).trans h1, k⟩
theorem outR_start (w : World) : OutR w w.heap.size [] (.slice (some ⟨w.heap.size, 0, none⟩) 0 0) (w.alloc (.cells #[] 60)) := by
  have h := World.ownsRow_lit (base := w.heap.size) (e := 60) (size := 3) w #[] 0 (Nat.le_refl _) (by simp) rfl
  exact ⟨by simpa [ruL] using h, ext1 _ _, by simp⟩
set_option maxHeartbeats 4000000 in
theorem sRules_good (n d most : Int) (w : World) (h : lenOk n d = true) (hm : inR most 1 1000 = true) (R : List (Int × Int)) (hR : rulesOf (rsPs n d) most = R) :
    Calls Try.prog 31 #[fracV n d, .int .i64 most] w (RetRules w R 0) := by
  obtain ⟨ti, hi, hz0, hz1, hz2⟩ := info_parts infoRu
  have HI := Lib.hid hi
  obtain ⟨hf, d2, n1, n2⟩ := lenOk_true.1 h
  obtain ⟨d1, _⟩ := fracOk_true.1 hf
  have hps := rsPs_length (n := n) d2
  have HL := Lib.hid h
  have HM := Lib.hid hm
  have HK : Hid (∀ W, Calls Try.prog 118 #[.int .i64 (n - 365 * d), .int .i64 d] W fun e w' => e = .returned (fracV (n - 365 * d) d) ∧ Below W.heap.size W w') := fun W => by
    have h1 := l02Make_any (n - 365 * d) d W (by omega) (by omega) (by omega) (by omega)
    rwa [(make_rest h).1, (make_rest h).2] at h1
  have HE := Lib.hid (fun W : World => l03Terms_any (n - 365 * d) d W (by omega) (by omega) d1 (by omega))
  have hxl : (termsOf (n - 365 * d) d).length ≤ 1000000000 := by have := expT_length d.toNat (n - 365 * d) d; unfold termsOf; omega
  have HB : Hid (∀ t ∈ termsOf (n - 365 * d) d, bil t) := fun t ht => expT_bd d.toNat (n - 365 * d) d (by omega) (by omega) (by omega) (by omega) t ht
  have HP : Hid ((convs (termsOf (n - 365 * d) d)).getD [] = rsPs n d) := rfl
  have HR : Hid (rulesOf ((rsPs n d).drop 0) most = R) := hR
  clear hR h hm hi hf
  generalize rsPs n d = ps at *
  generalize termsOf (n - 365 * d) d = ts at *
  unfold fracV at *
  go_enter Try.func31, Try.ntmps31
  go_wp2_with fail
  refine (l24Year_is HL.out _).mono ?_
  rintro e w1 ⟨rfl, hb1⟩
  obtain ⟨hc1, hf1⟩ := bcell hb1
  have hy1 := hb1.size
  (try simp at hy1)
  have hz1_0 : w.heap.size < w1.heap.size := by omega
  go_wp2_with (go_at_call 115; (with_reducible refine (l00In_is HM.out _).mono ?_); rintro e w' ⟨rfl, rfl⟩)
  refine (HK.out _).mono ?_
  rintro e w2 ⟨rfl, hb2⟩
  go_wp2_with fail
  refine (HE.out _).mono ?_
  rintro e w3 ⟨A3, c3, rfl, hw3, hb3⟩
  go_wp2_with fail
  refine (l03Convergents_any _ _ _ _ hw3.rd hxl HB.out).mono ?_
  rintro e w4 ⟨A4, c4, rfl, hw4, hb4⟩
  rw [HP.out] at hw4 ⊢
  have hbb : Below w.heap.size w w4 := by
    repeat (first | exact Below.refl _ _ | assumption | refine ext_alloc ?_ _ | refine ext_drew ?_ | refine ext_trans ?_ (by assumption))
  have hrd := hw4.rd
  clear hw3 hw4 hb1 hb2 hb3 hb4 hc1 hf1
  have HV0 := Lib.hid (outR_start w4)
  go_wp2_with fail
  go_loopw [9, 8] (fun s v wr => ∃ (k : Nat) (out : List (Int × Int)), k ≤ ps.length ∧ s = .int .i64 k ∧ out.length ≤ k ∧ Hid (out ++ rulesOf (ps.drop k) most = R) ∧ Hid (OutR w4 w4.heap.size out v wr)) (fun s _ _ => ps.length - (intOf s).toNat)
  case atStart => exact ⟨0, [], by omega, rfl, by simp, by unfold Hid; rw [← HR.out]; simp, HV0.out⟩
  case round =>
    obtain ⟨k, out, hk, rfl, hok, HO, HV⟩ := hrel
    clear HR HV0
    have hbe := HV.out.2.1
    by_cases hlt : k < ps.length
    · have hlen := ruL_length ps
      have hfl := frL_length ps
      obtain ⟨b, off, rfl, hb, hc⟩ := hrd (by omega)
      obtain ⟨⟨p, q⟩, hpk⟩ : ∃ x, ps[k]? = some x := ⟨_, List.getElem?_eq_getElem hlt⟩
      obtain ⟨g0, g1⟩ := frL_get hpk
      have C0 := hc _ _ g0
      have C1 := hc _ _ g1
      rw [← Nat.add_assoc] at C1
      have hcs := CS.of hb C0 C1 hbe
      obtain ⟨c0, c1, _⟩ := id hcs
      have HC := Lib.hid (fun (W : World) (k : Below w4.heap.size w4 W) => CS.of hb C0 C1 k)
      have HS := Lib.hid (rules_step (most := most) hpk)
      have i0 : (0 : Int) ≤ (k : Int) := by omega
      have i1 : (k : Int) < (ps.length : Int) := by omega
      clear hc hpk g0 g1 hlen hfl C0 C1 hcs
      by_cases hq : q ≤ most
      · have HN : Hid ((out ++ [(p, q)]) ++ rulesOf (ps.drop (k + 1)) most = R) := by
          have h := HO.out
          rw [HS.out, if_pos hq] at h
          unfold Hid
          rw [List.append_assoc]
          exact h
        clear HO HS
        have hbz := HV.out.2.2
        go_wp2_with fail
        go_region_held3 (fun w' => w'.cell? ⟨b, off + k * 2, none⟩ = some (.int .i64 p) ∧ w'.cell? ⟨b, off + k * 2 + 1, none⟩ = some (.int .i64 q) ∧ Below w4.heap.size w4 w')
          (first | exact HC.out _ (ext_drew hbe) | exact HC.out _ (ext_alloc (ext_drew hbe) _) | exact HC.out _ (below_grown (ext_alloc (ext_drew hbe) _) (own_below HV.out.1 (ext_alloc (ext_drew (Below.refl _ _)) _)) (Nat.le_refl _) (by assumption)))
          ((refine step_append_lies _ (by rfl) _ _ _ (by rfl) w4.heap.size 60 ti (.agg #[.int .i64 0, .int .i64 0, .int .i64 0]) 3 24 Try.underlying56 HI.out hz0 hz1 hz2 rfl (by decide) _ _ _ (by rfl) (own_below HV.out.1 (ext_alloc (ext_drew (Below.refl _ _)) _)) _ 1 1 [.int .i64 p, .int .i64 q, .int .i64 0] (by rfl) (by rfl) (news_row _ _ _ rfl) (by simp [Value.oneCell']) (by omega) (by unfold maxLen; omega) (by omega) (by simp; omega) _ rfl ?_; intro g cap w6 hown3 hgrow hat hlt))
        have HV3 := OutR.push (OutR.next HV.out (ext_drew (Below.refl _ _))) (Nat.le_refl _) _ _ hown3 hgrow
        clear hown3 hgrow
        go_wp2
        go_roundw
        case rel => exact ⟨k + 1, _, by omega, by go_num, by simp; omega, HN.out, HV3⟩
        case measure => simp [intOf]; omega
      · have HN : Hid (out ++ rulesOf (ps.drop (k + 1)) most = R) := by
          have h := HO.out
          rw [HS.out, if_neg hq] at h
          exact h
        clear HO HS
        go_wp2
        go_roundw
        case rel => exact ⟨k + 1, out, by omega, by go_num, by omega, HN.out, HV.out⟩
        case measure => simp [intOf]; omega
    · have HF : Hid (R = out) := by
        have h := HO.out
        rw [rules_end hlt, List.append_nil] at h
        exact h.symm
      go_wp2
      go_ret2
      rw [HF.out]
      exact OutR.ret HV.out hbb hbb.size
theorem iRulesFor_any (n d most : Int) (w : World) : Calls Try.prog 30 #[fracV n d, .int .i64 most] w (RetRules w (ruX n d most) (ruC n d most)) := by
  cases h : lenOk n d
  · have e1 : ruC n d most = 1 := by simp [ruC, h]
    have e2 : ruX n d most = [] := by rw [ruX, e1]; rfl
    rw [e1, e2]
    clear e1 e2
    have HL := Lib.hid h
    unfold fracV
    go_enter Try.func30, Try.ntmps30
    go_wp2_with fail
    refine (isLen_is HL.out _).mono ?_
    rintro e w1 ⟨rfl, hb1⟩
    obtain ⟨hc1, hf1⟩ := bcell hb1
    have hy1 := hb1.size
    (try simp at hy1)
    have hz1_0 : w.heap.size < w1.heap.size := by omega
    go_wp2
    go_ret2
    exact ret_rules0 w _ 1 (ext_trans (ext1 _ _) hb1)
  · cases hm : inR most 1 1000
    · have e1 : ruC n d most = 2 := by simp [ruC, h, hm]
      have e2 : ruX n d most = [] := by rw [ruX, e1]; rfl
      rw [e1, e2]
      clear e1 e2
      have HL := Lib.hid h
      have HM := Lib.hid hm
      clear h hm
      unfold fracV
      go_enter Try.func30, Try.ntmps30
      go_wp2_with fail
      refine (isLen_is HL.out _).mono ?_
      rintro e w1 ⟨rfl, hb1⟩
      obtain ⟨hc1, hf1⟩ := bcell hb1
      have hy1 := hb1.size
      (try simp at hy1)
      have hz1_0 : w.heap.size < w1.heap.size := by omega
      go_wp2_with (go_at_call 110; (with_reducible refine (within_is HM.out _).mono ?_); rintro e w' ⟨rfl, rfl⟩)
      go_ret2
      exact ret_rules0 w _ 2 (ext_trans (ext1 _ _) hb1)
    · have e1 : ruC n d most = 0 := by simp [ruC, h, hm]
      have e2 : ruX n d most = rulesOf (rsPs n d) most := by rw [ruX, e1]; rfl
      rw [e1, e2]
      exact iRules_good n d most w h hm _ rfl
theorem sRulesFor_any (n d most : Int) (w : World) : Calls Try.prog 31 #[fracV n d, .int .i64 most] w (RetRules w (ruX n d most) (ruC n d most)) := by
  cases h : lenOk n d
  · have e1 : ruC n d most = 1 := by simp [ruC, h]
    have e2 : ruX n d most = [] := by rw [ruX, e1]; rfl
    rw [e1, e2]
    clear e1 e2
    have HL := Lib.hid h
    unfold fracV
    go_enter Try.func31, Try.ntmps31
    go_wp2_with fail
    refine (l24Year_is HL.out _).mono ?_
    rintro e w1 ⟨rfl, hb1⟩
    obtain ⟨hc1, hf1⟩ := bcell hb1
    have hy1 := hb1.size
    (try simp at hy1)
    have hz1_0 : w.heap.size < w1.heap.size := by omega
    go_wp2
    go_ret2
    exact ret_rules0 w _ 1 (ext_trans (ext1 _ _) hb1)
  · cases hm : inR most 1 1000
    · have e1 : ruC n d most = 2 := by simp [ruC, h, hm]
      have e2 : ruX n d most = [] := by rw [ruX, e1]; rfl
      rw [e1, e2]
      clear e1 e2
      have HL := Lib.hid h
      have HM := Lib.hid hm
      clear h hm
      unfold fracV
      go_enter Try.func31, Try.ntmps31
      go_wp2_with fail
      refine (l24Year_is HL.out _).mono ?_
      rintro e w1 ⟨rfl, hb1⟩
      obtain ⟨hc1, hf1⟩ := bcell hb1
      have hy1 := hb1.size
      (try simp at hy1)
      have hz1_0 : w.heap.size < w1.heap.size := by omega
      go_wp2_with (go_at_call 115; (with_reducible refine (l00In_is HM.out _).mono ?_); rintro e w' ⟨rfl, rfl⟩)
      go_ret2
      exact ret_rules0 w _ 2 (ext_trans (ext1 _ _) hb1)
    · have e1 : ruC n d most = 0 := by simp [ruC, h, hm]
      have e2 : ruX n d most = rulesOf (rsPs n d) most := by rw [ruX, e1]; rfl
      rw [e1, e2]
      exact sRules_good n d most w h hm _ rfl
end Go.Proofs.Ytdjnblkgeaphmaa
