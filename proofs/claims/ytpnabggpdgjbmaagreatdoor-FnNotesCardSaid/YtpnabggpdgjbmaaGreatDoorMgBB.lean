/- Parts of the proof, merged: TextNI SplP. No condition but those that each theorem names. -/
import Derived.Test.YtpnabggpdgjbmaaGreatDoorMgAU
import Derived.Test.YtpnabggpdgjbmaaGreatDoorMgAS
import Derived.Lib.SplitLaws
import Derived.Lib.ParseIntB
import Derived.Lib.ParseIntBCases
namespace Go.Proofs.YtpnabggpdgjbmaaGreatDoor
open Go.RowKit Go.Sort
set_option maxRecDepth 100000 in
set_option maxHeartbeats 4000000 in
theorem iNotesText_any (A : Option Addr) (c : Nat) (xs : List Nt) (w : World) (hr : RdNt w w.heap.size A xs) (hf : ∀ x ∈ xs, x.fits) (hl : xs.length ≤ maxLen) (hT : Tab10 w) :
    Calls Tryz.prog 14 #[.slice A xs.length c] w fun e w' => e = .returned (.string (ntsB xs)) ∧ Below w.heap.size w w' := by
  have HC := Lib.hid (iValidNotes_any A c xs w hr hf hl)
  cases hv : validNt xs
  · have HE : Hid (ntsB xs = ⟨#[]⟩) := by unfold Hid ntsB; rw [hv]; rfl
    rw [hv] at HC
    clear hv hr hf hT hl
    generalize ntsB xs = R at *
    go_enter Tryz.func14, Tryz.ntmps14
    go_wp2_with fail
    refine HC.out.mono ?_
    rintro e w1 ⟨rfl, hb1⟩
    go_wp2
    go_ret
    rw [HE.out]
    exact ⟨rfl, hb1⟩
  · have HE : Hid (ntsB xs = ntsO xs xs.length) := by unfold Hid ntsB; rw [hv]; rfl
    rw [hv] at HC
    obtain ⟨hl4, hok⟩ := valid_all hv
    have HOK := Lib.hid hok
    have HT : Hid (∀ W, Below w.heap.size w W → Tab10 W) := fun W hb => hT.next hb
    have HR : Hid (∀ W, Below w.heap.size w W → RdNt W w.heap.size A xs) := fun W hb => hr.below hb
    have HSZ : Hid (∀ k, (ntsO xs k).size ≤ 1500 * k) := ntsO_size hok
    clear hv hr hf hT hok
    generalize ntsB xs = R at *
    go_enter Tryz.func14, Tryz.ntmps14
    go_wp2_with fail
    refine HC.out.mono ?_
    rintro e w1 ⟨rfl, hb1⟩
    have HB1 := Lib.hid hb1
    clear hb1 HC
    go_wp2_with fail
    go_loopw [12, 3, 5, 6] (fun t s u v wr => ∃ k : Nat, k ≤ xs.length ∧ t = .int .i64 k ∧ s = .string (ntsO xs k) ∧ Hid (Below w.heap.size w wr)) (fun t _ _ _ _ => xs.length - (intOf t).toNat)
    case atStart => exact ⟨0, by omega, rfl, rfl, HB1.out⟩
    case round =>
      obtain ⟨k, hk, rfl, rfl, HV⟩ := hrel
      clear HB1
      by_cases hlt : k < xs.length
      · obtain ⟨b, off, rfl, hb, hc⟩ := HR.out wr HV.out (by omega)
        obtain ⟨x, hxk⟩ : ∃ x, xs[k]? = some x := ⟨_, List.getElem?_eq_getElem hlt⟩
        obtain ⟨T, ct, cr0, cT⟩ := hc k x hxk
        obtain ⟨c0, c1, c2, c3, c4, c5, c6, c7⟩ := cr0.nt
        have hox := HOK.out x (List.mem_of_getElem? hxk)
        have n12 := (ntOk_bds hox).1
        have hkn := ntKnd hox
        have HN := Lib.hid (ntsO_next hxk)
        have zb := ntBody_size hox
        have zs : (ntsO xs k).size ≤ 60000 := by have := HSZ.out k; omega
        have j0 : (0 : Int) ≤ (k : Int) := by omega
        have j1 : (k : Int) < (xs.length : Int) := by omega
        obtain ⟨t0, t1, t2, t3⟩ := ztL (ntsO xs k) x.name (ntBody x) (by omega) n12 zb
        have HFT : Hid (∀ W, Below w.heap.size w W → Calls Tryz.prog 46 #[.agg #[.int .i64 x.num, .int .i64 x.den]] W fun e w' => e = .returned (.string (if fracOk x.num x.den = true then frT x.num x.den else ⟨#[]⟩)) ∧ Below W.heap.size W w') := fun W hbW => iFractionText_any _ _ W (HT.out W hbW)
        have HCT := Lib.hid cT
        have B1 := Lib.hid (BoxV.new wr #[.string x.name, .int .i64 x.kind, .int .i64 x.num, .int .i64 x.den, .slice T x.terms.length ct, .int .i64 x.sp, .int .i64 x.sd, .int .i64 x.sq] 31)
        have E1 := Lib.hid (ext_trans HV.out (ext1 wr (.cells #[.string x.name, .int .i64 x.kind, .int .i64 x.num, .int .i64 x.den, .slice T x.terms.length ct, .int .i64 x.sp, .int .i64 x.sd, .int .i64 x.sq] 31)))
        have HCB : Hid (∀ W, Below wr.heap.size wr W → RdC W W.heap.size T ct x.terms) := fun W hbW => ⟨(HCT.out.1.below (hbW.mono HV.out.size)).more (Nat.le_trans HV.out.size hbW.size), HCT.out.2⟩
        have E0 := Lib.hid (ext1 wr (.cells #[.string x.name, .int .i64 x.kind, .int .i64 x.num, .int .i64 x.den, .slice T x.terms.length ct, .int .i64 x.sp, .int .i64 x.sd, .int .i64 x.sq] 31))
        have HBY : Hid (ntBody x = if x.kind = 1 then frT x.num x.den else if x.kind = 2 then tmT x.terms else sdT x.sp x.sd x.sq) := rfl
        clear cr0 cT hc hxk hox hb HCT
        generalize ntsO xs k = S0 at *
        generalize ntBody x = Y at *
        have y2 := B1.out.at 2 _ rfl
        have y3 := B1.out.at 3 _ rfl
        go_wp2_with fail
        generalize wr.alloc (.cells #[.string x.name, .int .i64 x.kind, .int .i64 x.num, .int .i64 x.den, .slice T x.terms.length ct, .int .i64 x.sp, .int .i64 x.sd, .int .i64 x.sq] 31) = W0 at *
        refine (HFT.out _ E1.out).mono ?_
        rintro e w2 ⟨rfl, hb2⟩
        have E2 := Lib.hid (ext_trans E1.out hb2)
        have E20 := Lib.hid (ext_trans E0.out hb2)
        have B2 := Lib.hid (B1.out.next hb2)
        have x0 := B2.out.at 0 _ rfl
        have x1 := B2.out.at 1 _ rfl
        have x4 := B2.out.at 4 _ rfl
        have x5 := B2.out.at 5 _ rfl
        have x6 := B2.out.at 6 _ rfl
        have x7 := B2.out.at 7 _ rfl
        clear hb2 B1 E1 E0 y2 y3 c0 c1 c2 c3 c4 c5 c6 c7 HFT
        rcases hkn with ⟨nk, h1⟩ | ⟨nk, h1⟩ | ⟨nk, h1⟩
        · rw [nk] at x1 B2 HBY
          rw [if_pos rfl] at HBY
          rw [h1, if_pos rfl, ← HBY.out]
          clear nk h1
          go_wp2
          go_roundw
          case rel => exact ⟨k + 1, by omega, by go_num, by rw [HN.out], E2.out⟩
          case measure => simp [intOf]; omega
        · rw [nk] at x1 B2 HBY
          rw [if_neg (by omega), if_pos rfl] at HBY
          obtain ⟨l1, l2, l3⟩ := termsBBd h1
          have HTT := Lib.hid (iTermsText_any T ct x.terms w2 (HCB.out w2 E20.out) l1 l2 l3 h1 (HT.out w2 E2.out))
          rw [← HBY.out] at HTT
          clear nk h1
          generalize (if fracOk x.num x.den = true then frT x.num x.den else (⟨#[]⟩ : ByteArray)) = F0 at *
          go_wp2_with fail
          refine HTT.out.mono ?_
          rintro e w3 ⟨rfl, hb3⟩
          have E3 := Lib.hid (ext_trans E2.out hb3)
          have B3 := Lib.hid (B2.out.next hb3)
          have y0 := B3.out.at 0 _ rfl
          have y1 := B3.out.at 1 _ rfl
          clear hb3
          go_wp2
          go_roundw
          case rel => exact ⟨k + 1, by omega, by go_num, by rw [HN.out], E3.out⟩
          case measure => simp [intOf]; omega
        · rw [nk] at x1 B2 HBY
          rw [if_neg (by omega), if_neg (by omega)] at HBY
          have HTT := Lib.hid (iSurdText_any x.sp x.sd x.sq w2 (HT.out w2 E2.out) h1)
          rw [← HBY.out] at HTT
          clear nk h1
          generalize (if fracOk x.num x.den = true then frT x.num x.den else (⟨#[]⟩ : ByteArray)) = F0 at *
          go_wp2_with fail
          refine HTT.out.mono ?_
          rintro e w3 ⟨rfl, hb3⟩
          have E3 := Lib.hid (ext_trans E2.out hb3)
          have B3 := Lib.hid (B2.out.next hb3)
          have y0 := B3.out.at 0 _ rfl
          have y1 := B3.out.at 1 _ rfl
          clear hb3
          go_wp2
          go_roundw
          case rel => exact ⟨k + 1, by omega, by go_num, by rw [HN.out], E3.out⟩
          case measure => simp [intOf]; omega
      · have hil : k = xs.length := by omega
        subst hil
        have HBE := Lib.hid HV.out
        generalize ntsO xs xs.length = S0 at *
        go_wp2
        go_ret
        rw [HE.out]
        exact ⟨rfl, HBE.out⟩
end Go.Proofs.YtpnabggpdgjbmaaGreatDoor
namespace Go.Proofs.YtpnabggpdgjbmaaGreatDoor
open Go.RowKit Go.Sort
/-- A text cut at a byte, behind the part that is begun. -/
def spA (c : UInt8) : List UInt8 → List UInt8 → List (List UInt8)
  | acc, [] => [acc]
  | acc, b :: l => if b = c then acc :: spA c [] l else spA c (acc ++ [b]) l
/-- A text's parts between bytes. -/
def spB (c : UInt8) (s : ByteArray) : List ByteArray := (spA c [] s.data.toList).map fun l => ⟨l.toArray⟩
theorem splitK_spA (c : UInt8) : ∀ l : List UInt8, ∃ h t, Lib.splitK [c] 0 (Lib.count l [c]) l = h :: t ∧ ∀ acc, spA c acc l = (acc ++ h) :: t
  | [] => ⟨[], [], by rw [Lib.count_miss (by simp [Lib.index])]; rfl, fun acc => by simp [spA]⟩
  | b :: l => by
    obtain ⟨h, t, e1, e2⟩ := splitK_spA c l
    by_cases hb : b = c
    · subst hb
      have hix : Lib.index (b :: l) [b] = ((0 : Nat) : Int) := by rw [Lib.index]; simp [List.isPrefixOf]
      refine ⟨[], h :: t, ?_, fun acc => ?_⟩
      · rw [Lib.count_cons_eq, Nat.add_comm, Lib.splitK, hix]
        simp [e1]
      · rw [spA, if_pos rfl, e2]
        simp
    · have hp : ([c] : List UInt8).isPrefixOf (b :: l) = false := by simp [List.isPrefixOf, Ne.symm hb]
      have hix : Lib.index (b :: l) [c] = if Lib.index l [c] == -1 then -1 else Lib.index l [c] + 1 := by rw [Lib.index, hp]; simp
      by_cases hm : Lib.index l [c] = -1
      · rw [Lib.count_miss hm] at e1
        injection e1 with e3 e4
        subst e3 e4
        refine ⟨b :: l, [], ?_, fun acc => ?_⟩
        · rw [Lib.count_cons_ne b c l hb, Lib.count_miss hm]; rfl
        · rw [spA, if_neg hb, e2]; simp
      · have hge := Lib.index_ge l [c]
        obtain ⟨j, hj⟩ : ∃ j : Nat, Lib.index l [c] = j := ⟨(Lib.index l [c]).toNat, by omega⟩
        have hc := Lib.count_hit (sub := [c]) (by simp) hj
        have hix' : Lib.index (b :: l) [c] = ((j + 1 : Nat) : Int) := by rw [hix, if_neg (fun e => hm (beq_iff_eq.1 e)), hj]; omega
        have n1 : ((((j + 1 : Nat) : Int)) == -1) = false := by rw [beq_eq_false_iff_ne]; omega
        have n2 : (((j : Nat) : Int) == -1) = false := by rw [beq_eq_false_iff_ne]; omega
        rw [hc, Nat.add_comm, Lib.splitK, hj, n2] at e1
        simp only [Bool.false_eq_true, if_false, Int.toNat_natCast, Nat.add_zero, List.length_cons, List.length_nil, Nat.zero_add] at e1
        injection e1 with e3 e4
        refine ⟨b :: h, t, ?_, fun acc => ?_⟩
        · rw [Lib.count_cons_ne b c l hb, hc, Nat.add_comm, Lib.splitK, hix', n1]
          simp only [Bool.false_eq_true, if_false, Int.toNat_natCast, Nat.add_zero, List.length_cons, List.length_nil, Nat.zero_add]
          rw [show j + 1 + 1 = (j + 1) + 1 from rfl, List.drop_succ_cons, List.take_succ_cons, e3, e4]
        · rw [spA, if_neg hb, e2]; simp
theorem spA_acc (c : UInt8) (l acc : List UInt8) : ∃ h t, spA c [] l = h :: t ∧ spA c acc l = (acc ++ h) :: t := by
  obtain ⟨h, t, _, e2⟩ := splitK_spA c l
  exact ⟨h, t, by rw [e2]; simp, e2 acc⟩
theorem back_bytes (x : ByteArray) : (⟨x.data.toList.toArray⟩ : ByteArray) = x := by cases x; simp
theorem splitB_spB (c : UInt8) (s : ByteArray) : Lib.splitB ⟨#[c]⟩ 0 (Lib.countB s ⟨#[c]⟩) s = spB c s := by
  have h := Lib.splitB_data ⟨#[c]⟩ 0 (Lib.countB s ⟨#[c]⟩) s
  have h2 := congrArg (List.map fun l : List UInt8 => (⟨l.toArray⟩ : ByteArray)) h
  rw [List.map_map] at h2
  have e : ((fun l : List UInt8 => (⟨l.toArray⟩ : ByteArray)) ∘ fun x : ByteArray => x.data.toList) = id := funext fun x => back_bytes x
  rw [e, List.map_id] at h2
  rw [h2]
  unfold spB
  obtain ⟨h, t, e1, e2⟩ := splitK_spA c s.data.toList
  have e3 : Lib.splitK [c] 0 (Lib.count s.data.toList [c]) s.data.toList = spA c [] s.data.toList := by rw [e1, e2]; simp
  exact congrArg _ e3
theorem spB_len (c : UInt8) (s : ByteArray) : (spB c s).length = Lib.countB s ⟨#[c]⟩ + 1 := by
  rw [← splitB_spB, Lib.splitB_all _ (show 1 ≤ (⟨#[c]⟩ : ByteArray).size from Nat.le_refl 1) 0 _ s rfl]
/-- Parts joined again. -/
def jnA (c : UInt8) : List (List UInt8) → List UInt8
  | [] => []
  | h :: t => h ++ t.flatMap fun x => c :: x
theorem jn_spA (c : UInt8) : ∀ (l acc : List UInt8), jnA c (spA c acc l) = acc ++ l
  | [], acc => by simp [spA, jnA]
  | b :: l, acc => by
    by_cases hb : b = c
    · subst hb
      obtain ⟨h, t, e1, _⟩ := spA_acc b l []
      have := jn_spA b l []
      rw [e1] at this
      rw [spA, if_pos rfl, e1]
      simp only [jnA, List.nil_append, List.flatMap_cons] at this ⊢
      rw [← this]
      simp
    · rw [spA, if_neg hb, jn_spA c l]; simp
theorem spA_ne (c : UInt8) (acc l : List UInt8) : spA c acc l ≠ [] := by
  obtain ⟨h, t, _, e⟩ := spA_acc c l acc
  rw [e]; simp
theorem spA_lt (c : UInt8) : ∀ (l acc : List UInt8) (p : List UInt8), p ∈ spA c acc l → p.length ≤ acc.length + l.length
  | [], acc, p, h => by simp [spA] at h; subst h; simp
  | b :: l, acc, p, h => by
    rw [spA] at h
    split at h
    · rcases List.mem_cons.1 h with rfl | h
      · simp
      · have := spA_lt c l [] p h
        simp at this ⊢; omega
    · have := spA_lt c l _ p h
      simp at this ⊢; omega
/-- The number that a word tells, with at most 18 digits and as it is written; none if it tells none. -/
def numB (w : ByteArray) : Option Int :=
  match Lib.parseIntB 64 w.data.toList with
  | .ok v => if decB v = w ∧ v.natAbs < 1000000000000000000 then some v else none
  | _ => none
theorem parse_dec : ∀ (k u : Nat), u ≤ k → u ≤ 18446744073709551615 → ∀ r, Lib.parseUintM 18446744073709551615 0 (Lib.decDigits u ++ r) = Lib.parseUintM 18446744073709551615 u r
  | 0, u, hk, hu, r => by
    obtain rfl : u = 0 := by omega
    rw [Lib.decDigits, dif_pos (by decide)]
    rfl
  | k + 1, u, hk, hu, r => by
    by_cases h : u < 10
    · rw [Lib.decDigits, dif_pos h, List.cons_append, List.nil_append, Lib.parseUintM]
      have e : (UInt8.ofNat (48 + u)).toNat = 48 + u := by simp; omega
      rw [e, if_pos ⟨by omega, by omega⟩, if_neg (by omega), if_neg (by omega)]
      congr 1
      omega
    · rw [Lib.decDigits, dif_neg h, List.append_assoc, parse_dec k (u / 10) (by omega) (by omega), List.cons_append, List.nil_append, Lib.parseUintM]
      have e : (UInt8.ofNat (48 + u % 10)).toNat = 48 + u % 10 := by simp; omega
      rw [e, if_pos ⟨by omega, by omega⟩, if_neg (by omega), if_neg (by omega)]
      congr 1
      omega
theorem dec_ne (u : Nat) : Lib.decDigits u ≠ [] := by
  rw [Lib.decDigits]
  split <;> simp
theorem dec_digit (u : Nat) : ∀ (k : Nat), u ≤ k → ∀ b ∈ Lib.decDigits u, 48 ≤ b.toNat ∧ b.toNat ≤ 57 := by
  intro k
  induction k generalizing u with
  | zero =>
    intro hk b hb
    obtain rfl : u = 0 := by omega
    rw [Lib.decDigits, dif_pos (by decide)] at hb
    simp at hb
    subst hb
    decide
  | succ k ih =>
    intro hk b hb
    rw [Lib.decDigits] at hb
    split at hb
    · simp at hb
      subst hb
      simp
      omega
    · rcases List.mem_append.1 hb with hb | hb
      · exact ih (u / 10) (by omega) b hb
      · simp at hb
        subst hb
        simp
        omega
theorem parse_decB {n : Int} (h0 : -9223372036854775808 ≤ n) (h1 : n ≤ 9223372036854775807) : Lib.parseIntB 64 (decB n).data.toList = .ok n := by
  have e64 : (2 : Nat) ^ (64 - 1) = 9223372036854775808 := by decide
  have eM : (2 : Nat) ^ 64 - 1 = 18446744073709551615 := by decide
  have key : ∀ u : Nat, u ≤ 18446744073709551615 → Lib.parseUintB 64 (Lib.decDigits u) = .ok u := fun u hu => by
    unfold Lib.parseUintB
    rw [if_neg (dec_ne u), eM]
    have := parse_dec u u (Nat.le_refl _) hu []
    rw [List.append_nil] at this
    rw [this]
    rfl
  show Lib.parseIntB 64 (Lib.itoa n).toArray.toList = .ok n
  rw [List.toList_toArray]
  unfold Lib.itoa
  by_cases hn : n < 0
  · rw [if_pos hn, Lib.parseIntB_minus, key _ (by omega), e64]
    simp only [Lib.signedC]
    rw [if_neg (by omega)]
    congr 1
    omega
  · rw [if_neg hn]
    obtain ⟨b, r, hbr⟩ : ∃ b r, Lib.decDigits n.toNat = b :: r := List.exists_cons_of_ne_nil (dec_ne _)
    have hb := dec_digit n.toNat _ (Nat.le_refl _) b (by rw [hbr]; simp)
    have hk := key n.toNat (by omega)
    rw [hbr] at hk ⊢
    rw [Lib.parseIntB_plain 64 b r (by omega) (by omega), hk, e64]
    simp only [Lib.signlessC]
    rw [if_neg (by omega)]
    congr 1
    omega
theorem numB_some {w : ByteArray} {n : Int} : numB w = some n ↔ decB n = w ∧ n.natAbs < 1000000000000000000 := by
  constructor
  · intro h
    unfold numB at h
    split at h
    · split at h
      · next v _ hv => injection h with h; subst h; exact hv
      · cases h
    · cases h
  · rintro ⟨rfl, h⟩
    unfold numB
    rw [parse_decB (by omega) (by omega)]
    simp [h]
theorem numB_bd {w : ByteArray} {n : Int} (h : numB w = some n) : -1000000000000000000 < n ∧ n < 1000000000000000000 := by
  have := (numB_some.1 h).2
  omega
theorem dec_data (n : Int) : (decB n).data.toList = (if n < 0 then [45] else []) ++ Lib.decDigits n.natAbs := by
  show (Lib.itoa n).toArray.toList = _
  rw [List.toList_toArray]
  unfold Lib.itoa
  by_cases h : n < 0
  · rw [if_pos h, if_pos h]; rfl
  · rw [if_neg h, if_neg h, show n.toNat = n.natAbs by omega]; rfl
theorem dec_len : ∀ (k u : Nat), u < 10 ^ (k + 1) → (Lib.decDigits u).length ≤ k + 1
  | 0, u, h => by rw [Lib.decDigits, dif_pos (by simpa using h)]; simp
  | k + 1, u, h => by
    rw [Lib.decDigits]
    split
    · simp
    · have := dec_len k (u / 10) (by rw [Nat.pow_succ] at h; omega)
      rw [List.length_append]
      simp
      omega
theorem dec_len_ge : ∀ (k u : Nat), 10 ^ k ≤ u → k + 1 ≤ (Lib.decDigits u).length
  | 0, u, h => by have := List.length_pos_iff.2 (dec_ne u); omega
  | k + 1, u, h => by
    have hp : 0 < 10 ^ k := Nat.pos_of_ne_zero (by simp)
    rw [Nat.pow_succ] at h
    rw [Lib.decDigits, dif_neg (by omega), List.length_append]
    have := dec_len_ge k (u / 10) (by omega)
    simp
    omega
/-- The numbers that words tell; none if one tells none. -/
def numsB : List ByteArray → Option (List Int)
  | [] => some []
  | w :: ws => match numB w with
    | none => none
    | some n => (numsB ws).map (n :: ·)
theorem nums_none {ws : List ByteArray} {k : Nat} {w : ByteArray} (hk : ws[k]? = some w) (h : numB w = none) : numsB ws = none := by
  induction ws generalizing k with
  | nil => simp at hk
  | cons x ws ih =>
    unfold numsB
    cases k with
    | zero =>
      simp at hk
      subst hk
      rw [h]
    | succ k =>
      rw [ih (k := k) (by simpa using hk)]
      cases numB x <;> rfl
theorem nums_take {ws : List ByteArray} {k : Nat} {w : ByteArray} {ns : List Int} {n : Int} (h : numsB (ws.take k) = some ns) (hk : ws[k]? = some w) (hn : numB w = some n) : numsB (ws.take (k + 1)) = some (ns ++ [n]) := by
  induction ws generalizing k ns with
  | nil => simp at hk
  | cons x ws ih =>
    cases k with
    | zero =>
      simp at hk
      subst hk
      simp [numsB] at h
      subst h
      simp [numsB, hn]
    | succ k =>
      rw [List.take_succ_cons, numsB] at h ⊢
      cases hx : numB x with
      | none => rw [hx] at h; cases h
      | some m =>
        rw [hx] at h
        simp only at h ⊢
        cases hr : numsB (ws.take k) with
        | none => rw [hr] at h; cases h
        | some rs =>
          rw [hr] at h
          simp only [Option.map_some, Option.some.injEq] at h
          subst h
          rw [ih hr (by simpa using hk)]
          rfl
theorem nums_len {ws : List ByteArray} {ns : List Int} (h : numsB ws = some ns) : ns.length = ws.length := by
  induction ws generalizing ns with
  | nil => simp [numsB] at h; subst h; rfl
  | cons x ws ih =>
    rw [numsB] at h
    cases hx : numB x with
    | none => rw [hx] at h; cases h
    | some m =>
      rw [hx] at h
      simp only at h
      cases hr : numsB ws with
      | none => rw [hr] at h; cases h
      | some rs =>
        rw [hr] at h
        simp only [Option.map_some, Option.some.injEq] at h
        subst h
        simp [ih hr]
/-- The value of digits, behind what is read; none if one is none. -/
def vlA : Nat → List UInt8 → Option Nat
  | u, [] => some u
  | u, b :: l => if 48 ≤ b.toNat ∧ b.toNat ≤ 57 then vlA (10 * u + (b.toNat - 48)) l else none
theorem vlA_dec : ∀ (k u : Nat), u ≤ k → ∀ r, vlA 0 (Lib.decDigits u ++ r) = vlA u r
  | 0, u, hk, r => by
    obtain rfl : u = 0 := by omega
    rw [Lib.decDigits, dif_pos (by decide)]
    rfl
  | k + 1, u, hk, r => by
    by_cases h : u < 10
    · rw [Lib.decDigits, dif_pos h, List.cons_append, List.nil_append, vlA]
      have e : (UInt8.ofNat (48 + u)).toNat = 48 + u := by simp; omega
      rw [e, if_pos ⟨by omega, by omega⟩]
      congr 1
      omega
    · rw [Lib.decDigits, dif_neg h, List.append_assoc, vlA_dec k (u / 10) (by omega), List.cons_append, List.nil_append, vlA]
      have e : (UInt8.ofNat (48 + u % 10)).toNat = 48 + u % 10 := by simp; omega
      rw [e, if_pos ⟨by omega, by omega⟩]
      congr 1
      omega
theorem vlA_bd : ∀ (l : List UInt8) (u v : Nat), vlA u l = some v → v < (u + 1) * 10 ^ l.length
  | [], u, v, h => by
    simp only [vlA, Option.some.injEq] at h
    subst h
    simp
  | b :: l, u, v, h => by
    rw [vlA] at h
    split at h
    · next hb =>
      have := vlA_bd l _ v h
      have e : (10 * u + (b.toNat - 48) + 1) * 10 ^ l.length ≤ (u + 1) * 10 ^ (b :: l).length := by
        rw [List.length_cons, Nat.pow_succ, Nat.mul_comm (10 ^ l.length) 10, ← Nat.mul_assoc]
        exact Nat.mul_le_mul_right _ (by omega)
      omega
    · cases h
theorem vlA_step {l : List UInt8} {k : Nat} {b : UInt8} {u : Nat} (h : l[k]? = some b) : vlA u (l.drop k) = if 48 ≤ b.toNat ∧ b.toNat ≤ 57 then vlA (10 * u + (b.toNat - 48)) (l.drop (k + 1)) else none := by
  obtain ⟨h1, h2⟩ := List.getElem?_eq_some_iff.1 h
  rw [List.drop_eq_getElem_cons h1, h2]; rfl
theorem vlA_end {l : List UInt8} {k : Nat} {u : Nat} (h : ¬ k < l.length) : vlA u (l.drop k) = some u := by
  rw [List.drop_eq_nil_of_le (by omega)]; rfl
/-- A text without its sign. -/
def CutS (s T : ByteArray) (neg : Bool) : Prop := if neg = true then s.data.toList = 45 :: T.data.toList else s.data.toList = T.data.toList ∧ T.data.toList.head? ≠ some 45
theorem num_T {s T : ByteArray} {neg : Bool} {m : Int} (h : CutS s T neg) (hm : numB s = some m) : T.data.toList = Lib.decDigits m.natAbs ∧ (neg = true ↔ m < 0) := by
  have hd := dec_data m
  rw [(numB_some.1 hm).1] at hd
  unfold CutS at h
  have hh : (Lib.decDigits m.natAbs).head? ≠ some 45 := fun e => by
    have := dec_digit m.natAbs _ (Nat.le_refl _) 45 (List.mem_of_mem_head? e)
    simp at this
  cases neg
  · simp only [Bool.false_eq_true, if_false] at h
    by_cases hn : m < 0
    · rw [if_pos hn, h.1] at hd
      exact absurd (by rw [hd]; rfl) h.2
    · rw [if_neg hn, h.1] at hd
      exact ⟨hd, by simp; omega⟩
  · simp only [if_true] at h
    by_cases hn : m < 0
    · rw [if_pos hn, h] at hd
      simp at hd
      exact ⟨hd, by simp; omega⟩
    · rw [if_neg hn, h] at hd
      exact absurd (by rw [← List.nil_append (Lib.decDigits _), ← hd]; rfl) hh
theorem size_list (s : ByteArray) : s.data.toList.length = s.size := by cases s; rfl
theorem num_no {s T : ByteArray} {neg : Bool} (h : CutS s T neg) (hz : T.size = 0 ∨ 18 < T.size) : numB s = none := by
  cases hm : numB s with
  | none => rfl
  | some m =>
    have h1 := (num_T h hm).1
    have h2 := (numB_some.1 hm).2
    have h3 := dec_len 17 m.natAbs (by simpa using h2)
    have h4 := List.length_pos_iff.2 (dec_ne m.natAbs)
    rw [← h1, size_list] at h3 h4
    omega
theorem num_bad {s T : ByteArray} {neg : Bool} (h : CutS s T neg) (hR : vlA 0 T.data.toList = none) : numB s = none := by
  cases hm : numB s with
  | none => rfl
  | some m =>
    have h1 := (num_T h hm).1
    have := vlA_dec m.natAbs m.natAbs (Nat.le_refl _) []
    rw [List.append_nil, ← h1, hR] at this
    cases this
theorem num_val {s T : ByteArray} {neg : Bool} {u : Nat} {n : Int} (h : CutS s T neg) (hs : T.size ≤ 18) (hR : vlA 0 T.data.toList = some u) (hn : n = if neg = true then -(u : Int) else u) : numB s = if decB n = s then some n else none := by
  have hb := vlA_bd _ _ _ hR
  rw [size_list] at hb
  have hp : (10 : Nat) ^ T.size ≤ 10 ^ 18 := Nat.pow_le_pow_right (by decide) hs
  have e18 : (10 : Nat) ^ 18 = 1000000000000000000 := by decide
  by_cases hd : decB n = s
  · rw [if_pos hd]
    refine numB_some.2 ⟨hd, ?_⟩
    subst hn
    split <;> omega
  · rw [if_neg hd]
    cases hm : numB s with
    | none => rfl
    | some m =>
      obtain ⟨h1, h2⟩ := num_T h hm
      have hv := vlA_dec m.natAbs m.natAbs (Nat.le_refl _) []
      rw [List.append_nil, ← h1, hR] at hv
      simp only [vlA, Option.some.injEq] at hv
      exfalso
      refine hd ?_
      have e : n = m := by
        rw [hn]
        cases neg
        · simp at h2 ⊢; omega
        · simp at h2 ⊢; omega
      rw [e]
      exact (numB_some.1 hm).1
theorem head_list {s : ByteArray} (h : 0 < s.size) : s.data.toList = s[0] :: s.data.toList.drop 1 := by
  have hl := size_list s
  have := List.drop_eq_getElem_cons (l := s.data.toList) (i := 0) (by omega)
  rw [List.drop_zero] at this
  exact this
theorem ext_list (s : ByteArray) (a b : Nat) : (s.extract a b).data.toList = (s.data.toList.drop a).take (b - a) := by
  rw [Lib.extract_data]
theorem cut_neg {s : ByteArray} (h : 0 < s.size) (h45 : s[0] = 45) : CutS s (s.extract 1 s.size) true ∧ (s.extract 1 s.size).size = s.size - 1 ∧ Lib.trimPrefix s.data.toList [45] = (s.extract 1 s.size).data.toList := by
  have hl := size_list s
  have e : (s.extract 1 s.size).data.toList = s.data.toList.drop 1 := by
    rw [ext_list, List.take_of_length_le (by rw [List.length_drop]; omega)]
  have hh := head_list h
  rw [h45] at hh
  refine ⟨by unfold CutS; rw [if_pos rfl, e]; exact hh, by rw [← size_list, e, List.length_drop]; omega, ?_⟩
  unfold Lib.trimPrefix Lib.hasPrefix
  rw [e, if_pos (by rw [hh]; rfl)]
  rfl
theorem cut_pos {s : ByteArray} (h : ∀ h : 0 < s.size, s[0] ≠ 45) : CutS s s false ∧ Lib.trimPrefix s.data.toList [45] = s.data.toList := by
  have hh : s.data.toList.head? ≠ some 45 := fun e => by
    rcases Nat.eq_zero_or_pos s.size with h0 | h0
    · have e0 : s.data.toList = [] := List.eq_nil_of_length_eq_zero (by rw [size_list]; omega)
      rw [e0] at e
      cases e
    · rw [head_list h0] at e
      exact h h0 (Option.some.inj e)
  refine ⟨by unfold CutS; rw [if_neg (by decide)]; exact ⟨rfl, hh⟩, ?_⟩
  unfold Lib.trimPrefix Lib.hasPrefix
  rw [if_neg]
  intro e
  cases hl : s.data.toList with
  | nil => rw [hl] at e; cases e
  | cons b l =>
    rw [hl] at e hh
    simp [List.isPrefixOf] at e hh
    exact hh e.symm
/-- What the number of a word is for a walk: the number, and whether there is one. -/
def numN (s : ByteArray) : Int := (numB s).getD 0
def numK (s : ByteArray) : Bool := (numB s).isSome
theorem num_none_ {s : ByteArray} (h : numB s = none) : numN s = 0 ∧ numK s = false := by unfold numN numK; rw [h]; exact ⟨rfl, rfl⟩
theorem num_some_ {s : ByteArray} {n : Int} (h : numB s = some n) : numN s = n ∧ numK s = true := by unfold numN numK; rw [h]; exact ⟨rfl, rfl⟩
theorem num_bd_ (s : ByteArray) : -1000000000000000000 < numN s ∧ numN s < 1000000000000000000 := by
  cases h : numB s with
  | none => rw [(num_none_ h).1]; omega
  | some n => rw [(num_some_ h).1]; exact numB_bd h
theorem num_of {s : ByteArray} (h : numK s = true) : numB s = some (numN s) := by
  unfold numK at h
  unfold numN
  cases e : numB s with
  | none => rw [e] at h; cases h
  | some n => rfl
theorem num_not {s : ByteArray} (h : numK s = false) : numB s = none := by
  unfold numK at h
  cases e : numB s with
  | none => rfl
  | some n => rw [e] at h; cases h
theorem spB_ne (c : UInt8) (s : ByteArray) : ∃ w ws, spB c s = w :: ws := by
  unfold spB
  cases hsp : spA c [] s.data.toList with
  | nil => exact absurd hsp (spA_ne _ _ _)
  | cons p ps => exact ⟨_, _, rfl⟩
theorem spB_sz {c : UInt8} {s p : ByteArray} (h : p ∈ spB c s) : p.size ≤ s.size := by
  unfold spB at h
  obtain ⟨l, h1, rfl⟩ := List.mem_map.1 h
  have := spA_lt c _ _ l h1
  have hl := size_list s
  show l.toArray.size ≤ _
  simp at this ⊢
  omega
theorem spB_count (c : UInt8) (s : ByteArray) : (spB c s).length ≤ s.size + 1 := by
  rw [spB_len]
  have := Lib.countB_le ⟨#[c]⟩ (Nat.le_refl 1) s.size s (Nat.le_refl _)
  omega
end Go.Proofs.YtpnabggpdgjbmaaGreatDoor
