/- ReadTerms: the program's walk. No condition but those that each theorem names. -/
import Derived.Test.YtbcikkaoohihhaaGreatDoorRfW
import Derived.Test.YtbcikkaoohihhaaGreatDoorTextLW
import Derived.Test.YtbcikkaoohihhaaGreatDoorTextNP
namespace Go.Proofs.YtbcikkaoohihhaaGreatDoor
open Go.RowKit Go.Sort

/-- What a call returns that reads terms. -/
def RetTm (w : World) (R : Option (List Int)) (e : Ending) (w' : World) : Prop :=
  ∃ B c, e = .returned (.tuple #[.slice B (R.getD []).length c, .bool R.isSome]) ∧ WrT w' w.heap.size B c (R.getD []) ∧ Below w.heap.size w w'
theorem RetTm.none_ {w w' : World} {R : Option (List Int)} (hR : R = none) (hb : Below w.heap.size w w') : RetTm w R (.returned (.tuple #[.slice none 0 0, .bool false])) w' := by
  subst hR
  exact ⟨none, 0, rfl, ⟨fun h => absurd h (by simp), by simp, by unfold maxLen; omega⟩, hb⟩
theorem iTermsText_all (A : Option Addr) (c : Nat) (xs : List Int) (w : World) (hx : RdC w w.heap.size A c xs) (hl : xs.length ≤ 1000000000) (hT : Tab10 w) :
    Calls Tryz.prog 59 #[.slice A xs.length c] w fun e w' => e = .returned (.string (tmX xs)) ∧ Below w.heap.size w w' := by
  cases h : termsB xs
  · have e : tmX xs = ⟨#[]⟩ := by unfold tmX; rw [h]; rfl
    have HV := Lib.hid (ValidTerms_any A c xs w hx (by unfold maxLen; omega))
    rw [h] at HV
    rw [e]
    clear h e hx
    go_enter Tryz.func59, Tryz.ntmps59
    go_wp2_with fail
    refine HV.out.mono ?_
    rintro e w1 ⟨rfl, rfl⟩
    go_wp2
    go_ret
    exact ⟨rfl, Below.refl _ _⟩
  · have e : tmX xs = tmT xs := by unfold tmX; rw [if_pos h]
    obtain ⟨h1, h2, h3⟩ := termsBBd h
    rw [e]
    exact iTermsText_any A c xs w hx h1 h2 h3 h hT
theorem splitB_szs (sep : ByteArray) : ∀ (k : Nat) (s : ByteArray), ∀ x ∈ Lib.splitB sep 0 k s, x.size ≤ s.size
  | 0, s, x, h => by simp [Lib.splitB] at h; subst h; exact Nat.le_refl _
  | k + 1, s, x, h => by
    unfold Lib.splitB at h
    split at h
    · simp at h; subst h; exact Nat.le_refl _
    · rcases List.mem_cons.1 h with rfl | h
      · rw [ByteArray.size_extract]; omega
      · have := splitB_szs sep k _ x h
        rw [ByteArray.size_extract] at this
        omega
theorem replaceK_le (old new : List UInt8) : ∀ (k : Nat) (s : List UInt8), (Lib.replaceK old new k s).length ≤ s.length + k * new.length
  | 0, s => by simp [Lib.replaceK]
  | k + 1, s => by
    unfold Lib.replaceK
    split
    · omega
    · have := replaceK_le old new k (s.drop ((Lib.index s old).toNat + old.length))
      rw [List.length_append, List.length_append, List.length_take, Nat.add_mul, Nat.one_mul]
      rw [List.length_drop] at this
      omega
theorem rtR_sz (s : ByteArray) : (rtR s).size ≤ (rtJ s).length + 2 := by
  unfold rtR
  rw [mkL_size]
  unfold Lib.replace
  split
  · omega
  · have h := replaceK_le [59, 32] [44, 32] (Lib.replaceNum (rtJ s) [59, 32] 1) (rtJ s)
    have h2 : Lib.replaceNum (rtJ s) [59, 32] 1 ≤ 1 := by
      unfold Lib.replaceNum
      split
      · omega
      · decide
    have h3 : Lib.replaceNum (rtJ s) [59, 32] 1 * ([44, 32] : List UInt8).length ≤ 2 := by
      show _ * 2 ≤ 2
      omega
    omega
theorem rtW_any (s : ByteArray) (w : World) (hs : (rtR s).size ≤ 1000000000) (hV : Vars w) :
    Calls Tryz.prog 129 #[.string (rtR s), .string ⟨#[44, 32]⟩] w fun e w' => e = .returned (.slice (some ⟨w.heap.size, 0, none⟩) (rtW s).length (rtW s).length) ∧ Rd Value.string w' w'.heap.size (some ⟨w.heap.size, 0, none⟩) (rtW s) ∧ Below w.heap.size w w' := by
  obtain ⟨m, hm⟩ := hV.len
  have h2 : 1 ≤ (⟨#[44, 32]⟩ : ByteArray).size := by show 1 ≤ 2; omega
  have hlen : (rtW s).length = Lib.countB (rtR s) ⟨#[44, 32]⟩ + 1 := Lib.splitB_all _ h2 0 _ (rtR s) rfl
  refine (Tryz.strings_Split (rtR s) ⟨#[44, 32]⟩ m w (by omega) hm h2).mono ?_
  rintro e w' ⟨rfl, rfl⟩
  exact ⟨by rw [hlen], (Wr.lit w (by rfl)).rd, ext1 _ _⟩
theorem rtR_size (s : ByteArray) : (rtJ s).length ≤ s.size ∧ (rtA s).length ≤ s.size := by
  have h1 : (rtA s).length ≤ s.size := by
    rw [← size_list]
    unfold rtA Lib.trimPrefix
    split
    · rw [List.length_drop]; omega
    · exact Nat.le_refl _
  refine ⟨?_, h1⟩
  unfold rtJ Lib.trimSuffix
  split
  · rw [List.length_take]; omega
  · exact h1
set_option maxRecDepth 100000 in
set_option maxHeartbeats 4000000 in
theorem iReadTerms_any (s : ByteArray) (w : World) (hs : s.size ≤ 100000000) (hV : Vars w) :
    Calls Tryz.prog 84 #[.string s] w (RetTm w (rtO s)) := by
  have HVV := Lib.hid (fun W (hb : Below w.heap.size w W) => hV.next hb)
  obtain ⟨zJ, zI⟩ := rtR_size s
  have hcj := Lib.countB_le ⟨#[59, 32]⟩ (show 1 ≤ (⟨#[59, 32]⟩ : ByteArray).size from by show 1 ≤ 2; omega) (mkL (rtJ s)).size (mkL (rtJ s)) (Nat.le_refl _)
  rw [mkL_size] at hcj
  have HP0 : Hid (∀ W, Calls Tryz.prog 126 #[.string s, .string ⟨#[91]⟩] W fun e w' => e = .returned (.tuple #[.string (mkL (rtA s)), .bool (Lib.hasPrefix s.data.toList [91])]) ∧ W = w') := fun W => by
    refine (Tryz.strings_CutPrefix s ⟨#[91]⟩ W).mono ?_
    rintro e w' ⟨rfl, rfl⟩
    exact ⟨rfl, rfl⟩
  have HP1 : Hid (∀ W, Calls Tryz.prog 127 #[.string (mkL (rtA s)), .string ⟨#[93]⟩] W fun e w' => e = .returned (.tuple #[.string (mkL (rtJ s)), .bool (Lib.hasSuffix (rtA s) [93])]) ∧ W = w') := fun W => by
    have h := Tryz.strings_CutSuffix (mkL (rtA s)) ⟨#[93]⟩ W (by rw [mkL_size]; omega)
    rw [mkL_data] at h
    refine h.mono ?_
    rintro e w' ⟨rfl, rfl⟩
    exact ⟨rfl, rfl⟩
  have HRP : Hid (∀ W, Below w.heap.size w W → Calls Tryz.prog 130 #[.string (mkL (rtJ s)), .string ⟨#[59, 32]⟩, .string ⟨#[44, 32]⟩, .int .i64 1] W fun e w' => e = .returned (.string (rtR s)) ∧ Below W.heap.size W w') := fun W hb => by
    obtain ⟨m, hm⟩ := (HVV.out W hb).len
    have h := Tryz.strings_Replace (mkL (rtJ s)) ⟨#[59, 32]⟩ ⟨#[44, 32]⟩ 1 m W (by rw [mkL_size]; omega) hm (show 1 ≤ (⟨#[59, 32]⟩ : ByteArray).size from by show 1 ≤ 2; omega) (by
      show (mkL (rtJ s)).size + _ * 2 ≤ _
      rw [mkL_size]
      omega)
    rw [mkL_data] at h
    refine h.mono ?_
    rintro e w' ⟨rfl, hb⟩
    exact ⟨rfl, hb⟩
  have hzR := rtR_sz s
  have HSPL : Hid (∀ W, Below w.heap.size w W → Calls Tryz.prog 129 #[.string (rtR s), .string ⟨#[44, 32]⟩] W fun e w' => e = .returned (.slice (some ⟨W.heap.size, 0, none⟩) (rtW s).length (rtW s).length) ∧ Rd Value.string w' w'.heap.size (some ⟨W.heap.size, 0, none⟩) (rtW s) ∧ Below W.heap.size W w') := fun W hb => rtW_any s W (by omega) (HVV.out W hb)
  have hcnt : (rtW s).length ≤ 1000000000 := by
    have h2 : 1 ≤ (⟨#[44, 32]⟩ : ByteArray).size := by show 1 ≤ 2; omega
    have hlen : (rtW s).length = Lib.countB (rtR s) ⟨#[44, 32]⟩ + 1 := Lib.splitB_all _ h2 0 _ (rtR s) rfl
    have := Lib.countB_le ⟨#[44, 32]⟩ h2 (rtR s).size (rtR s) (Nat.le_refl _)
    omega
  have HRD : Hid (∀ W A c, Below w.heap.size w W → Rd Value.string W W.heap.size A (rtW s) → Calls Tryz.prog 128 #[.slice A (rtW s).length c] W (RetNumC W (numsB (rtW s)))) := fun W A c hb h => readDecimals_cap A c (rtW s) W h hcnt (fun x hx => by have := splitB_szs _ _ _ x hx; omega) (HVV.out W hb)
  have HTT : Hid (∀ W A c xs, Below w.heap.size w W → RdC W W.heap.size A c xs → xs.length ≤ 1000000000 → Calls Tryz.prog 59 #[.slice A xs.length c] W fun e w' => e = .returned (.string (tmX xs)) ∧ Below W.heap.size W w') := fun W A c xs hb h hl => iTermsText_all A c xs W h hl (HVV.out W hb).tab
  have HNL : Hid (∀ ns, numsB (rtW s) = some ns → ns.length ≤ 1000000000) := fun ns h => by have := nums_len h; omega
  have HO0 : Hid (rtC s = false → rtO s = none) := fun h => by unfold rtO; rw [if_neg (by rw [h]; decide)]
  have HO1 : Hid (numsB (rtW s) = none → rtO s = none) := fun h => by unfold rtO; rw [h]; split <;> rfl
  have HO2 : Hid (∀ ns, rtC s = true → numsB (rtW s) = some ns → (tmX ns = s → rtO s = some ns) ∧ (tmX ns ≠ s → rtO s = none)) := fun ns hc h => by
    unfold rtO
    rw [if_pos hc, h]
    exact ⟨fun e => by simp [e], fun e => by simp [e]⟩
  have HCC : Hid (rtC s = (Lib.hasPrefix s.data.toList [91] && Lib.hasSuffix (rtA s) [93])) := rfl
  generalize rtO s = R at *
  generalize rtC s = cc at *
  generalize numsB (rtW s) = NO at *
  generalize Lib.hasPrefix s.data.toList [91] = b0 at *
  generalize Lib.hasSuffix (rtA s) [93] = b1 at *
  generalize rtW s = WS at *
  generalize rtR s = RR at *
  generalize mkL (rtJ s) = JJ at *
  generalize mkL (rtA s) = II at *
  obtain ⟨L, hL⟩ : ∃ L, WS.length = L := ⟨_, rfl⟩
  rw [hL] at HSPL HRD
  clear zJ zI hcj hzR hV HVV hcnt hL
  unfold RetNumC at HRD
  have hway : b0 = false ∨ (b0 = true ∧ b1 = false) ∨ (b0 = true ∧ b1 = true) := by cases b0 <;> cases b1 <;> simp
  rcases hway with rfl | ⟨rfl, rfl⟩ | ⟨rfl, rfl⟩
  · have HQ : Hid (R = none) := HO0.out (by rw [HCC.out]; rfl)
    clear HO0 HO1 HO2 HCC HRD HSPL HRP HTT
    go_enter Tryz.func84, Tryz.ntmps84
    go_wp2_with fail
    refine (HP0.out _).mono ?_
    rintro e w1 ⟨rfl, rfl⟩
    go_wp2_with fail
    refine (HP1.out _).mono ?_
    rintro e w1 ⟨rfl, rfl⟩
    go_wp2
    go_ret2
    exact RetTm.none_ HQ.out (Below.refl _ _)
  · have HQ : Hid (R = none) := HO0.out (by rw [HCC.out]; rfl)
    clear HO0 HO1 HO2 HCC HRD HSPL HRP HTT
    go_enter Tryz.func84, Tryz.ntmps84
    go_wp2_with fail
    refine (HP0.out _).mono ?_
    rintro e w1 ⟨rfl, rfl⟩
    go_wp2_with fail
    refine (HP1.out _).mono ?_
    rintro e w1 ⟨rfl, rfl⟩
    go_wp2
    go_ret2
    exact RetTm.none_ HQ.out (Below.refl _ _)
  · have HCT : Hid (cc = true) := by rw [HCC.out]; rfl
    go_enter Tryz.func84, Tryz.ntmps84
    go_wp2_with fail
    refine (HP0.out _).mono ?_
    rintro e w1 ⟨rfl, rfl⟩
    go_wp2_with fail
    refine (HP1.out _).mono ?_
    rintro e w1 ⟨rfl, rfl⟩
    go_wp2_with fail
    refine (HRP.out _ (Below.refl _ _)).mono ?_
    rintro e w1 ⟨rfl, hb1⟩
    have E1 := Lib.hid hb1
    go_wp2_with fail
    refine (HSPL.out _ E1.out).mono ?_
    rintro e w2 ⟨rfl, hr2, hb2⟩
    have E2 := Lib.hid (ext_trans E1.out hb2)
    go_wp2_with fail
    refine (HRD.out _ _ _ E2.out hr2).mono ?_
    rintro e w3 ⟨B, c, rfl, hw3, hb3, hc1, hc2⟩
    have E3 := Lib.hid (ext_trans E2.out hb3)
    cases NO with
    | none =>
      have HQ := Lib.hid (HO1.out rfl)
      simp only [Option.isSome_none, Option.getD_none, List.length_nil]
      clear HO0 HO1 HO2 HCC HRD HSPL HRP HTT HNL hw3
      go_wp2
      go_ret2
      exact RetTm.none_ HQ.out E3.out
    | some ns =>
      have hns := HNL.out ns rfl
      have hcc1 : ns.length ≤ c := hc1
      have HWN : Hid (Wr (Value.int .i64) w3 w2.heap.size B ns) := hw3
      have HX := Lib.hid (HTT.out w3 B c ns E3.out ⟨HWN.out.rd, hcc1, by unfold maxLen; omega⟩ hns)
      have hz2 : w.heap.size ≤ w2.heap.size := E2.out.size
      simp only [Option.isSome_some, Option.getD_some]
      by_cases hx : tmX ns = s
      · have HQ := Lib.hid ((HO2.out ns HCT.out rfl).1 hx)
        have heq := strEqB hx
        generalize tmX ns = X at *
        clear HO0 HO1 HO2 HCC HRD HSPL HRP HTT HNL hx hw3 hc1
        go_wp2_with fail
        refine HX.out.mono ?_
        rintro e w4 ⟨rfl, hb4⟩
        have E4 := Lib.hid (ext_trans E3.out hb4)
        have HW4 := Lib.hid (HWN.out.below hb4)
        go_wp2
        go_ret2
        rw [HQ.out]
        exact ⟨B, c, rfl, ⟨HW4.out.more hz2, hcc1, by unfold maxLen; omega⟩, E4.out⟩
      · have HQ := Lib.hid ((HO2.out ns HCT.out rfl).2 hx)
        have heq := strNeB hx
        generalize tmX ns = X at *
        clear HO0 HO1 HO2 HCC HRD HSPL HRP HTT HNL hx hw3 hc1
        go_wp2_with fail
        refine HX.out.mono ?_
        rintro e w4 ⟨rfl, hb4⟩
        have E4 := Lib.hid (ext_trans E3.out hb4)
        go_wp2
        go_ret2
        exact RetTm.none_ HQ.out E4.out
end Go.Proofs.YtbcikkaoohihhaaGreatDoor
