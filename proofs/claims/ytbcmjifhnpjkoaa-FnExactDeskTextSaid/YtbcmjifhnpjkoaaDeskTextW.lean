/- DeskText: both walks. No condition but those that each theorem names. -/
import Derived.Test.YtbcmjifhnpjkoaaValidDeskW
import Derived.Test.YtbcmjifhnpjkoaaShelf
import Derived.Lib.Join
namespace Go.Proofs.Ytbcmjifhnpjkoaa
open Go.RowKit Go.Sort

theorem okTo_all {xs : List Nd} : ∀ {n : Nat}, okTo xs n = true → ∀ k, k < n → okAt xs k = true
  | n + 1, h, k, hk => by
    unfold okTo at h
    rw [Bool.and_eq_true] at h
    rcases Nat.lt_or_ge k n with g | g
    · exact okTo_all h.1 k g
    · obtain rfl : k = n := by omega
      exact h.2
theorem valid_names {xs : List Nd} (h : validN xs = true) : xs.length ≤ 12 ∧ ∀ (k : Nat) x, xs[k]? = some x → 1 ≤ x.name.size ∧ x.name.size ≤ 12 := by
  unfold validN at h
  rw [Bool.and_eq_true] at h
  refine ⟨by simpa using h.2, fun k x hx => ?_⟩
  have hk := (List.getElem?_eq_some_iff.1 hx).1
  have h1 := okTo_all h.1 k hk
  have h2 : nameB x.name = true := by
    rcases okAt_cases hx with ⟨_, g⟩ | ⟨g, _⟩ | ⟨g, _⟩ | ⟨g, _⟩
    · rw [h1] at g; cases g
    · exact g
    · exact g
    · exact g
  unfold nameB at h2
  rw [Bool.and_eq_true, Bool.and_eq_true] at h2
  exact ⟨by simpa using h2.1, by simpa using h2.2.1⟩

/-- What the reference has written after k names. -/
def dOut (xs : List Nd) : Nat → ByteArray
  | 0 => { data := #[] }
  | k + 1 => (if 0 < k then dOut xs k ++ { data := #[32] } else dOut xs k) ++ (xs.getD k default).name
def bL (x : Nd) : List UInt8 := x.name.data.toList
theorem joinTail_snoc (sep x : List UInt8) : ∀ r : List (List UInt8), Lib.joinTail sep (r ++ [x]) = Lib.joinTail sep r ++ (sep ++ x) := by
  intro r
  simp [Lib.joinTail]
theorem join_snoc (l : List (List UInt8)) (x sep : List UInt8) : Lib.join (l ++ [x]) sep = if 0 < l.length then Lib.join l sep ++ sep ++ x else x := by
  cases l with
  | nil => simp [Lib.join_one]
  | cons a r =>
    rw [if_pos (by simp), List.cons_append, Lib.join_cons, Lib.join_cons, joinTail_snoc]
    simp
theorem app_data (a b : ByteArray) : (a ++ b).data.toList = a.data.toList ++ b.data.toList := by
  simp
theorem dOut_join {xs : List Nd} : ∀ k, k ≤ xs.length → (dOut xs k).data.toList = Lib.join ((xs.take k).map bL) [32]
  | 0, _ => by simp [dOut, Lib.join_nil]
  | k + 1, hk => by
    have hx : xs[k]? = some (xs[k]'(by omega)) := List.getElem?_eq_getElem (by omega)
    have ih := dOut_join (xs := xs) k (by omega)
    have ht : (xs.take k).length = k := by rw [List.length_take]; omega
    rw [List.take_add_one, hx, List.map_append]
    show _ = Lib.join ((xs.take k).map bL ++ [bL _]) [32]
    have e : dOut xs (k + 1) = (if 0 < k then dOut xs k ++ { data := #[32] } else dOut xs k) ++ (xs[k]'(by omega)).name := by
      rw [dOut]
      simp only [List.getD, hx, Option.getD_some]
    rw [join_snoc, List.length_map, ht, ← ih, e]
    by_cases h0 : 0 < k
    · rw [if_pos h0, if_pos h0, app_data, app_data]; rfl
    · obtain rfl : k = 0 := by omega
      rw [if_neg h0, if_neg h0, app_data]
      simp [dOut, bL]
theorem dOut_size {xs : List Nd} (h : ∀ (k : Nat) x, xs[k]? = some x → 1 ≤ x.name.size ∧ x.name.size ≤ 12) : ∀ k, k ≤ xs.length → k ≤ (dOut xs k).size ∧ (dOut xs k).size ≤ 13 * k
  | 0, _ => by simp [dOut]; rfl
  | k + 1, hk => by
    have hx : xs[k]? = some (xs[k]'(by omega)) := List.getElem?_eq_getElem (by omega)
    have ih := dOut_size h k (by omega)
    have hb := h k _ hx
    unfold dOut
    simp only [List.getD, hx, Option.getD_some]
    have e1 : ∀ a b : ByteArray, (a ++ b).size = a.size + b.size := fun a b => ByteArray.size_append
    split
    · rw [e1, e1]
      have : ({ data := #[32] } : ByteArray).size = 1 := rfl
      omega
    · rw [e1]; omega

/-- A desk's names. -/
def namesB (xs : List Nd) : ByteArray := if xs.length = 0 then { data := #[45] } else ⟨(Lib.join (xs.map bL) [32]).toArray⟩
theorem names_out {xs : List Nd} (h : 0 < xs.length) : dOut xs xs.length = namesB xs := by
  have := dOut_join (xs := xs) xs.length (Nat.le_refl _)
  rw [List.take_length] at this
  unfold namesB
  rw [if_neg (by omega), ← this]

set_option maxHeartbeats 1000000 in
theorem l28Text_any (g : Nat) (A : Option Addr) (c : Nat) (xs : List Nd) (w : World) (hg : w.cell? ⟨g, 0, none⟩ = some (.slice A xs.length c)) (hr : RdN w w.heap.size A xs) (hv : validN xs = true) :
    Calls Try.prog 141 #[.pointer (some ⟨g, 0, none⟩)] w fun e w' => e = .returned (.string (namesB xs)) ∧ w = w' := by
  obtain ⟨hl, hn⟩ := valid_names hv
  have HN := Lib.hid hn
  clear hn hv
  go_enter Try.func141, Try.ntmps141
  go_wp2_with fail
  go_loop [4, 3] (fun t u => ∃ k : Nat, k ≤ xs.length ∧ t = .int .i64 k ∧ u = .string (dOut xs k)) (fun t _ => xs.length - (intOf t).toNat)
  case atStart => exact ⟨0, by omega, rfl, rfl⟩
  case round =>
    obtain ⟨k, hk, rfl, rfl⟩ := hrel
    obtain ⟨s1, s2⟩ := dOut_size HN.out k hk
    by_cases hlt : k < xs.length
    · obtain ⟨b, off, rfl, hb, hc⟩ := hr (by omega)
      obtain ⟨x, hxk⟩ : ∃ x, xs[k]? = some x := ⟨_, List.getElem?_eq_getElem hlt⟩
      obtain ⟨T, ct, c1, c2, c3⟩ := hc k x hxk
      obtain ⟨x1, x2⟩ := HN.out k x hxk
      have HS : Hid (dOut xs (k + 1) = (if 0 < k then dOut xs k ++ { data := #[32] } else dOut xs k) ++ x.name) := by
        unfold Hid
        rw [dOut]
        simp only [List.getD, hxk, Option.getD_some]
      clear hc hxk c2 c3
      have i0 : (0 : Int) ≤ (k : Int) := by omega
      have i1 : (k : Int) < (xs.length : Int) := by omega
      have e1 : ∀ a b : ByteArray, (a ++ b).size = a.size + b.size := fun a b => ByteArray.size_append
      have e2 : ({ data := #[32] } : ByteArray).size = 1 := rfl
      generalize dOut xs k = o at *
      have hz : (o ++ { data := #[32] }).size ≤ 13 * k + 1 := by rw [e1, e2]; omega
      have E1 := Lib.hid e1
      clear e1 e2
      by_cases h0 : 0 < k
      · rw [if_pos h0] at HS
        go_wp2
        go_round
        case rel => exact ⟨k + 1, by omega, by go_num, by rw [HS.out]⟩
        case measure => simp [intOf]; omega
      · rw [if_neg h0] at HS
        go_wp2
        go_round
        case rel => exact ⟨k + 1, by omega, by go_num, by rw [HS.out]⟩
        case measure => simp [intOf]; omega
    · have hkl : k = xs.length := by omega
      by_cases h0 : xs.length = 0
      · have hz1 : ((dOut xs k).toList == []) = true := by
          rw [hkl, h0, ByteArray.toList_eq]; rfl
        have HE : Hid (namesB xs = { data := #[45] }) := by unfold Hid namesB; rw [if_pos h0]
        clear h0 hkl
        go_wp2
        go_ret
        rw [HE.out]
        exact ⟨rfl, rfl⟩
      · have hz1 : ((dOut xs k).toList == []) = false := by
          rw [beq_eq_false_iff_ne, ByteArray.toList_eq]
          intro e
          have hq : (dOut xs k).data.toList.length = (dOut xs k).size := by cases dOut xs k; rfl
          rw [e] at hq
          simp at hq
          omega
        have HE : Hid (dOut xs k = namesB xs) := by rw [hkl]; exact names_out (by omega)
        clear h0 hkl
        go_wp2
        go_ret
        rw [HE.out]
        exact ⟨rfl, rfl⟩

/-- What the words hold up to k. -/
def CpW (w : World) (h : Nat) (xs : List Nd) (k : Nat) (W : World) : Prop :=
  (∀ j x, j < k → xs[j]? = some x → W.cell? ⟨h, j, none⟩ = some (.string x.name)) ∧ (∀ j, j < xs.length → ∃ v, W.cell? ⟨h, j, none⟩ = some v) ∧ (∀ j, W.frozen? ⟨h, j, none⟩ = false) ∧ Below w.heap.size w W ∧ h < W.heap.size
theorem CpW.next {w W W' : World} {h : Nat} {xs : List Nd} {k : Nat} (hc : CpW w h xs k W) (hb : Below W.heap.size W W') : CpW w h xs k W' := by
  obtain ⟨h1, h2, h3, h4, h5⟩ := hc
  exact ⟨fun j x hj hx => (hb.cell (p := ⟨h, j, none⟩) h5).trans (h1 j x hj hx), fun j hj => (h2 j hj).imp fun v hv => (hb.cell (p := ⟨h, j, none⟩) h5).trans hv, fun j => (hb.frozen (p := ⟨h, j, none⟩) h5).trans (h3 j), h4.trans (hb.mono h4.size), Nat.lt_of_lt_of_le h5 hb.size⟩
theorem CpW.set {w W : World} {h : Nat} {xs : List Nd} {k : Nat} {x : Nd} (hc : CpW w h xs k W) (hw : w.heap.size ≤ h) (hk : k < xs.length) (hx : xs[k]? = some x) : CpW w h xs (k + 1) (W.setCell ⟨h, k, none⟩ (.string x.name)) := by
  obtain ⟨h1, h2, h3, h4, h5⟩ := hc
  obtain ⟨v0, hv0⟩ := h2 k hk
  refine ⟨fun j y hj hy => ?_, fun j hj => ?_, fun j => (World.frozen?_setCell _ _ _ _).trans (h3 j), h4.setCell hw _, by simpa using h5⟩
  · rcases Nat.lt_or_ge j k with g | g
    · exact (World.cell?_setCell_other _ _ _ _ (by simp <;> omega)).trans (h1 j y g hy)
    · obtain rfl : j = k := by omega
      obtain rfl := Option.some.inj (hx.symm.trans hy)
      exact World.cell?_setCell_same _ _ _ hv0
  · by_cases e : j = k
    · subst e; exact ⟨_, World.cell?_setCell_same _ _ _ hv0⟩
    · obtain ⟨u, hu⟩ := h2 j hj
      exact ⟨u, (World.cell?_setCell_other _ _ _ _ (by simp <;> omega)).trans hu⟩

theorem infoStr : (Try.prog.info? 9).map (fun i => (i.zero, i.size, i.bytes)) = some (some (.string ByteArray.empty), 1, 16) := by kernel_rfl
set_option maxHeartbeats 1000000 in
theorem names_any (A : Option Addr) (c : Nat) (xs : List Nd) (w : World) (hr : RdN w w.heap.size A xs) (hv : validN xs = true) :
    Calls Try.prog 142 #[.agg #[.slice A xs.length c]] w fun e w' => e = .returned (.string (namesB xs)) ∧ Below w.heap.size w w' := by
  obtain ⟨hl, hn⟩ := valid_names hv
  have HN := Lib.hid hn
  clear hn hv
  by_cases h0 : xs.length = 0
  · have h1 : ((xs.length : Int) == 0) = true := by simp [h0]
    have HE : Hid (namesB xs = { data := #[45] }) := by unfold Hid namesB; rw [if_pos h0]
    clear h0
    go_enter Try.func142, Try.ntmps142
    go_wp2
    go_ret
    rw [HE.out]
    exact ⟨rfl, ext1 _ _⟩
  · have h1 : ((xs.length : Int) == 0) = false := beq_eq_false_iff_ne.2 (by omega)
    obtain ⟨i0, hi, hz0, hz1, hz2⟩ := info_parts infoStr
    have hmk : ∀ W : World, (Instr.makeSlice 167 (.int .i64 (xs.length : Int)) (.int .i64 (xs.length : Int))).run Try.prog W = .ok (.slice (some ⟨W.heap.size, 0, none⟩) xs.length xs.length) (W.alloc (.cells (madeCells #[.string ByteArray.empty] xs.length) 9)) := fun W => by
      have h := run_make (P := Try.prog) W 167 9 i0 _ Try.underlying167 hi hz0 .i64 .i64 (xs.length : Int) (xs.length : Int) (by omega) (by omega) (by rw [hz2]; omega) (by omega)
      rw [hz1] at h
      simpa [Value.cells] using h
    have HE : Hid (namesB xs = ⟨(Lib.join (xs.map bL) [32]).toArray⟩) := by unfold Hid namesB; rw [if_neg h0]
    have HJ : Hid (0 < xs.length) := by unfold Hid; omega
    clear h0
    go_enter Try.func142, Try.ntmps142
    go_wp2_with fail
    have hms : (madeCells #[.string ByteArray.empty] xs.length).size = xs.length := size_madeCells _ _
    obtain ⟨W, hW, hC⟩ : ∃ W, W = (w.alloc (.cells #[.slice A xs.length c] 52)).alloc (.cells (madeCells #[.string ByteArray.empty] xs.length) 9) ∧ CpW w (w.heap.size + 1) xs 0 W :=
      ⟨_, rfl, fun _ _ h => absurd h (by omega), fun j hj => by
        refine ⟨(madeCells #[.string ByteArray.empty] xs.length)[j]'(by rw [hms]; exact hj), ?_⟩
        rw [World.cell?_alloc_at _ _ _ _ (by simp)]
        exact Array.getElem?_eq_getElem (by rw [hms]; exact hj), fun j => World.frozen?_alloc_at _ _ _ _ (by simp), ext_alloc (ext1 _ _) _, by simp⟩
    rw [← hW]
    clear hW hms
    have HC := Lib.hid hC
    clear hC hmk
    go_loopw [17] (fun t wr => ∃ i : Nat, i ≤ xs.length ∧ t = .int .i64 i ∧ Hid (CpW w (w.heap.size + 1) xs i wr)) (fun t _ => xs.length - (intOf t).toNat)
    case atStart => exact ⟨0, by omega, rfl, HC.out⟩
    case round =>
      obtain ⟨i, hi', rfl, HR⟩ := hrel
      clear HC
      have hbe := HR.out.2.2.2.1
      have hzr := HR.out.2.2.2.2
      by_cases hlt : i < xs.length
      · obtain ⟨b, off, rfl, hb, hc⟩ := (hr.next hbe) (by omega)
        obtain ⟨x, hxi⟩ : ∃ x, xs[i]? = some x := ⟨_, List.getElem?_eq_getElem hlt⟩
        obtain ⟨T, ct, c1, c2, _⟩ := hc i x hxi
        have HX := Lib.hid hxi
        obtain ⟨v0, hv0⟩ := HR.out.2.1 i hlt
        have hf0 := HR.out.2.2.1 i
        clear hc hxi
        have j0 : (0 : Int) ≤ (i : Int) := by omega
        have j1 : (i : Int) < (xs.length : Int) := by omega
        go_wp2
        go_roundw
        case rel =>
          first
          | exact ⟨i + 1, by omega, by go_num, (CpW.set HR.out (by omega) hlt HX.out).next (ext1 _ _)⟩
          | exact ⟨i + 1, by omega, by go_num, CpW.set (CpW.next HR.out (ext1 _ _)) (by omega) hlt HX.out⟩
        case measure => simp [intOf]; omega
      · obtain ⟨r1, r2, r3, r4, r5⟩ := HR.out
        have hjl : (Lib.join (xs.map bL) [32]).length ≤ 140737488355328 := by
          have h := (dOut_size HN.out xs.length (Nat.le_refl _)).2
          have e := dOut_join (xs := xs) xs.length (Nat.le_refl _)
          rw [List.take_length] at e
          rw [← e]
          have hq : (dOut xs xs.length).data.toList.length = (dOut xs xs.length).size := by cases dOut xs xs.length; rfl
          omega
        have HCJ : Hid (Calls Try.prog 174 #[.slice (some ⟨w.heap.size + 1, 0, none⟩) xs.length xs.length, .string { data := #[32] }] wr fun e w' => e = .returned (.string ⟨(Lib.join (xs.map bL) [32]).toArray⟩) ∧ Below wr.heap.size wr w') := by
          have h := Try.strings_Join (w.heap.size + 1) 0 xs.length (xs.map (·.name)) { data := #[32] } wr (fun j y hy => by
            rw [List.getElem?_map] at hy
            obtain ⟨x, hx, rfl⟩ := Option.map_eq_some_iff.1 hy
            rw [Nat.zero_add]
            exact r1 j x (by have := (List.getElem?_eq_some_iff.1 hx).1; omega) hx) r5 (by simp; omega) (by simp) (by rw [List.map_map]; exact hjl)
          rw [List.length_map, List.map_map] at h
          exact h
        clear r1 r2 r3 hjl
        go_wp2_with fail
        refine HCJ.out.mono ?_
        rintro e w2 ⟨rfl, hb2⟩
        go_wp2
        go_ret
        rw [HE.out]
        exact ⟨rfl, r4.trans (hb2.mono r4.size)⟩

/-- DeskText. -/
def dtxB (xs : List Nd) : ByteArray := if validN xs = true then namesB xs else { data := #[] }
theorem sDeskText_any (A : Option Addr) (c : Nat) (xs : List Nd) (w : World) (hr : RdN w w.heap.size A xs) (hf : ∀ x ∈ xs, x.fits) (hl : xs.length ≤ maxLen) :
    Calls Try.prog 72 #[.agg #[.slice A xs.length c]] w fun e w' => e = .returned (.string (dtxB xs)) ∧ Below w.heap.size w w' := by
  have HC := Lib.hid (l28Ok_any w.heap.size A c xs (w.alloc (.cells #[.slice A xs.length c] 52)) (by rw [cell_one]; rfl) (hr.next (ext1 _ _)) hf hl)
  cases hv : validN xs
  · have HE : Hid (dtxB xs = { data := #[] }) := by unfold Hid dtxB; rw [hv]; rfl
    rw [hv] at HC
    clear hv
    go_enter Try.func72, Try.ntmps72
    go_wp2_with fail
    refine HC.out.mono ?_
    rintro e w1 ⟨rfl, hb1⟩
    go_wp2
    go_ret
    rw [HE.out]
    exact ⟨rfl, ext_trans (ext1 _ _) hb1⟩
  · have HE : Hid (dtxB xs = namesB xs) := by unfold Hid dtxB; rw [hv]; rfl
    rw [hv] at HC
    have HV := Lib.hid hv
    clear hv
    go_enter Try.func72, Try.ntmps72
    go_wp2_with fail
    refine HC.out.mono ?_
    rintro e w1 ⟨rfl, hb1⟩
    have g1 : w1.cell? ⟨w.heap.size, 0, none⟩ = some (.slice A xs.length c) := (hb1.cell (p := ⟨w.heap.size, 0, none⟩) (by simp)).trans (by rw [cell_one]; rfl)
    have HT := Lib.hid (l28Text_any w.heap.size A c xs w1 g1 ((hr.next (ext1 _ _)).next hb1) HV.out)
    go_wp2_with fail
    refine HT.out.mono ?_
    rintro e w2 ⟨rfl, rfl⟩
    go_wp2
    go_ret
    rw [HE.out]
    exact ⟨rfl, ext_trans (ext1 _ _) hb1⟩
theorem iDeskText_any (A : Option Addr) (c : Nat) (xs : List Nd) (w : World) (hr : RdN w w.heap.size A xs) (hf : ∀ x ∈ xs, x.fits) (hl : xs.length ≤ maxLen) :
    Calls Try.prog 73 #[.agg #[.slice A xs.length c]] w fun e w' => e = .returned (.string (dtxB xs)) ∧ Below w.heap.size w w' := by
  have HC := Lib.hid (fun o : Obj => iValidDesk_any A c xs (w.alloc o) (hr.next (ext1 _ _)) hf hl)
  cases hv : validN xs
  · have HE : Hid (dtxB xs = { data := #[] }) := by unfold Hid dtxB; rw [hv]; rfl
    rw [hv] at HC
    clear hv
    go_enter Try.func73, Try.ntmps73
    go_wp2_with fail
    refine (HC.out _).mono ?_
    rintro e w1 ⟨rfl, hb1⟩
    go_wp2
    go_ret
    rw [HE.out]
    exact ⟨rfl, ext_trans (ext1 _ _) hb1⟩
  · have HE : Hid (dtxB xs = namesB xs) := by unfold Hid dtxB; rw [hv]; rfl
    rw [hv] at HC
    have HV := Lib.hid hv
    clear hv
    go_enter Try.func73, Try.ntmps73
    go_wp2_with fail
    refine (HC.out _).mono ?_
    rintro e w1 ⟨rfl, hb1⟩
    have g1 : w1.cell? ⟨w.heap.size, 0, none⟩ = some (.slice A xs.length c) := (hb1.cell (p := ⟨w.heap.size, 0, none⟩) (by simp)).trans (by rw [cell_one]; rfl)
    have HT := Lib.hid (names_any A c xs w1 ((hr.next (ext1 w (.cells #[.slice A xs.length c] 52))).next hb1) HV.out)
    go_wp2_with fail
    refine HT.out.mono ?_
    rintro e w2 ⟨rfl, hb2⟩
    go_wp2
    go_ret
    rw [HE.out]
    exact ⟨rfl, ext_trans (ext_trans (ext1 _ _) hb1) hb2⟩
end Go.Proofs.Ytbcmjifhnpjkoaa
