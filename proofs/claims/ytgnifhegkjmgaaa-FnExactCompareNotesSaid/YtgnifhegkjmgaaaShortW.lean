/- Terms in short form: both walks. No condition but those that each theorem names. -/
import Derived.Test.YtgnifhegkjmgaaaCmpP
import Derived.Test.YtgnifhegkjmgaaaCloneW
namespace Go.Proofs.Ytgnifhegkjmgaaa
open Go.RowKit Go.Sort

theorem Rd.take {α : Type} {enc : α → Value} {w : World} {B : Nat} {A : Option Addr} {xs : List α} (h : Rd enc w B A xs) (k : Nat) : Rd enc w B A (xs.take k) := fun hn => by
  obtain ⟨b, off, e, hb, hc⟩ := h (by rw [List.length_take] at hn; omega)
  exact ⟨b, off, e, hb, fun j x hx => hc j x (by rw [List.getElem?_take] at hx; split at hx; exact hx; cases hx)⟩
theorem Wr.take {α : Type} {enc : α → Value} {w : World} {B : Nat} {A : Option Addr} {xs : List α} (h : Wr enc w B A xs) (k : Nat) : Wr enc w B A (xs.take k) := fun hn => by
  obtain ⟨b, off, e, hb, hl, hc, hf⟩ := h (by rw [List.length_take] at hn; omega)
  exact ⟨b, off, e, hb, hl, fun j x hx => hc j x (by rw [List.getElem?_take] at hx; split at hx; exact hx; cases hx), hf⟩
theorem Wr.setAt {w : World} {B b off j : Nat} {xs : List Int} {x : Int} (h : Wr (Value.int .i64) w B (some ⟨b, off, none⟩) xs) (hj : j < xs.length) : Wr (Value.int .i64) (w.setCell ⟨b, off + j, none⟩ (.int .i64 x)) B (some ⟨b, off, none⟩) (xs.set j x) := fun _ => by
  obtain ⟨b', off', e, hb, hl, hc, hf⟩ := h (by omega)
  injection e with e
  injection e with e1 e2
  subst e1 e2
  refine ⟨b, off, rfl, hb, by simpa using hl, fun i y hy => ?_, fun i => (World.frozen?_setCell _ _ _ _).trans (hf i)⟩
  by_cases hij : i = j
  · subst hij
    rw [List.getElem?_set_self hj] at hy
    obtain rfl := Option.some.inj hy
    exact World.cell?_setCell_same _ _ _ (hc i _ (List.getElem?_eq_getElem hj))
  · rw [List.getElem?_set_ne (fun e => hij e.symm)] at hy
    exact (World.cell?_setCell_other _ _ _ _ (by intro e; injection e; omega)).trans (hc i y hy)
theorem RetCap.of {w w' : World} {A : Option Addr} {n c : Nat} {ys : List Int} (hn : ys.length = n) (hw : Wr (Value.int .i64) w' w.heap.size A ys) (hc : ys.length ≤ c ∧ c ≤ maxLen) (hb : Below w.heap.size w w') : RetCap w ys (.returned (.slice A n c)) w' := by
  subst hn; exact ⟨A, c, rfl, hw, hc, hb⟩
theorem getD_last {xs : List Int} {m : Nat} (h : xs.length = m + 2) : xs[m + 1]? = some (xs.getD (xs.length - 1) 0) := by
  rw [show xs.length - 1 = m + 1 by omega]
  exact getD_of (by omega)
set_option maxRecDepth 100000 in
set_option maxHeartbeats 1000000 in
theorem shortForm_any (A : Option Addr) (c : Nat) (xs : List Int) (w : World) (hx : Rd (Value.int .i64) w w.heap.size A xs) (hm : xs.length ≤ 1000) (hcap : xs.length ≤ c ∧ c ≤ maxLen) (hb : ∀ x ∈ xs, -2000000000 ≤ x ∧ x ≤ 2000000000) :
    Calls Try.prog 184 #[.slice A xs.length c] w (RetCap w (shT xs)) := by
  obtain ⟨hc1, hc2⟩ := hcap
  rcases Nat.lt_or_ge 1 xs.length with h1 | h1
  · obtain ⟨m, hm2⟩ : ∃ m, xs.length = m + 2 := ⟨xs.length - 2, by omega⟩
    have hlast := getD_last hm2
    have HM := Lib.hid hm2
    have HCL : Hid (∀ W, Below w.heap.size w W → Calls Try.prog 102 #[.slice A (m + 2) c] W (RetCap W xs)) := fun W h => by
      have k := clone_any A c xs W ((hx.below h).more h.size) (by omega)
      rwa [hm2] at k
    have HCT : Hid (∀ W, Below w.heap.size w W → Calls Try.prog 102 #[.slice A (m + 1) c] W (RetCap W (xs.take (m + 1)))) := fun W h => by
      have k := clone_any A c (xs.take (m + 1)) W (((hx.below h).more h.size).take _) (by rw [List.length_take]; omega)
      rwa [List.length_take, show min (m + 1) xs.length = m + 1 by omega] at k
    have i1 : (m : Int) + 1 ≤ (c : Int) := by omega
    have i2 : (0 : Int) ≤ (m : Int) + 1 := by omega
    have i3 : (m : Int) + 1 < (m : Int) + 2 := by omega
    have i4 : (m : Int) + 2 ≤ 1000 := by omega
    have i5 : m + 1 < m + 2 := by omega
    have i6 : m + 2 ≤ 1000 := by omega
    have i7 : (1 : Int) < (m : Int) + 2 := by omega
    have i8 : 1 < m + 2 := by omega
    have hpre : xs[m]? = some (xs.getD m 0) := getD_of (by omega)
    obtain ⟨b, off, rfl, hb0, hc⟩ := hx (by omega)
    have cl := hc _ _ hlast
    obtain ⟨pb1, pb2⟩ := hb _ (List.mem_of_getElem? hpre)
    clear hc hx
    by_cases h2 : xs.getD (xs.length - 1) 0 = 1
    · have HE : Hid (shT xs = (xs.take (m + 1)).set m (xs.getD m 0 + 1)) := by
        unfold Hid
        rw [shT_yes h1 h2, hm2]; rfl
      rw [HE.out]
      rw [h2] at cl
      have ht : (xs.take (m + 1)).length = m + 1 := by rw [List.length_take]; omega
      have hp2 : (xs.take (m + 1))[m]? = some (xs.getD m 0) := by rw [List.getElem?_take, if_pos (by omega)]; exact hpre
      have HT := Lib.hid (And.intro ht hp2)
      have HP := Lib.hid hpre
      rw [hm2]
      generalize xs.getD m 0 = q at *
      clear ht hp2 hpre hlast hm2 h2 h1 hm hc1 hb
      go_enter Try.func184, Try.ntmps184
      go_wp2_with (go_at_call 102; (with_reducible refine (HCT.out _ (Below.refl _ _)).mono ?_); rintro e w1 ⟨A1, c1, rfl, hw1, hcc1, hb1⟩; obtain ⟨b1, off1, rfl, hbb, hlt, hcx, hfx⟩ := hw1 (by rw [HT.out.1]; omega); have x1 := hcx _ _ HT.out.2; have f1 := hfx (off1 + m); have HW := Lib.hid hw1; have HL1 : Hid ((xs.take (m + 1)).length ≤ c1 ∧ c1 ≤ maxLen) := hcc1; clear hcx hfx hw1 hcc1; (try simp only [HT.out.1]))
      go_ret
      exact RetCap.of (by have h := HT.out.1; rw [List.length_set]; omega) (HW.out.setAt (by rw [HT.out.1]; omega)) (by rw [List.length_set]; exact HL1.out) (ext_set hb1 (by exact hbb) _)
    · have HE : Hid (shT xs = xs) := shT_no (fun h => h2 h.2)
      have hne : (xs.getD (xs.length - 1) 0 == 1) = false := by simpa using h2
      rw [HE.out, hm2]
      generalize xs.getD (xs.length - 1) 0 = q at *
      clear hlast hm2 h2 h1 hm hc1 hb hpre
      go_enter Try.func184, Try.ntmps184
      go_wp2_with (go_at_call 102; (with_reducible refine (HCL.out _ (Below.refl _ _)).mono ?_); rintro e w1 ⟨A1, c1, rfl, hw1, hcc1, hb1⟩)
      go_ret
      exact ⟨A1, c1, rfl, hw1, hcc1, hb1⟩
  · have HE : Hid (shT xs = xs) := shT_no (fun h => by omega)
    have h1n : ¬ 1 < xs.length := by omega
    have h1i : ¬ (1 : Int) < (xs.length : Int) := by omega
    rw [HE.out]
    have HCL : Hid (∀ W, Below w.heap.size w W → Calls Try.prog 102 #[.slice A xs.length c] W (RetCap W xs)) := fun W h => clone_any A c xs W ((hx.below h).more h.size) (by omega)
    go_enter Try.func184, Try.ntmps184
    go_wp2_with (go_at_call 102; (with_reducible refine (HCL.out _ (Below.refl _ _)).mono ?_); rintro e w1 ⟨A1, c1, rfl, hw1, hcc1, hb1⟩)
    go_ret
    exact ⟨A1, c1, rfl, hw1, hcc1, hb1⟩
set_option maxRecDepth 100000 in
set_option maxHeartbeats 1000000 in
theorem l03Short_any (A : Option Addr) (c : Nat) (xs : List Int) (w : World) (hx : Rd (Value.int .i64) w w.heap.size A xs) (hm : xs.length ≤ 1000) (hcap : xs.length ≤ c ∧ c ≤ maxLen) (hb : ∀ x ∈ xs, -2000000000 ≤ x ∧ x ≤ 2000000000) :
    Calls Try.prog 179 #[.slice A xs.length c] w (RetCap w (shT xs)) := by
  obtain ⟨hc1, hc2⟩ := hcap
  rcases Nat.lt_or_ge 1 xs.length with h1 | h1
  · obtain ⟨m, hm2⟩ : ∃ m, xs.length = m + 2 := ⟨xs.length - 2, by omega⟩
    have hlast := getD_last hm2
    have HM := Lib.hid hm2
    have HCL : Hid (∀ W, Below w.heap.size w W → Calls Try.prog 101 #[.slice A (m + 2) c] W (RetCap W xs)) := fun W h => by
      have k := l00Own_any A c xs W ((hx.below h).more h.size) (by omega)
      rwa [hm2] at k
    have HCT : Hid (∀ W, Below w.heap.size w W → Calls Try.prog 101 #[.slice A (m + 1) c] W (RetCap W (xs.take (m + 1)))) := fun W h => by
      have k := l00Own_any A c (xs.take (m + 1)) W (((hx.below h).more h.size).take _) (by rw [List.length_take]; omega)
      rwa [List.length_take, show min (m + 1) xs.length = m + 1 by omega] at k
    have i1 : (m : Int) + 1 ≤ (c : Int) := by omega
    have i2 : (0 : Int) ≤ (m : Int) + 1 := by omega
    have i3 : (m : Int) + 1 < (m : Int) + 2 := by omega
    have i4 : (m : Int) + 2 ≤ 1000 := by omega
    have i5 : m + 1 < m + 2 := by omega
    have i6 : m + 2 ≤ 1000 := by omega
    have i7 : (1 : Int) < (m : Int) + 2 := by omega
    have i8 : 1 < m + 2 := by omega
    have hpre : xs[m]? = some (xs.getD m 0) := getD_of (by omega)
    obtain ⟨b, off, rfl, hb0, hc⟩ := hx (by omega)
    have cl := hc _ _ hlast
    obtain ⟨pb1, pb2⟩ := hb _ (List.mem_of_getElem? hpre)
    clear hc hx
    by_cases h2 : xs.getD (xs.length - 1) 0 = 1
    · have HE : Hid (shT xs = (xs.take (m + 1)).set m (xs.getD m 0 + 1)) := by
        unfold Hid
        rw [shT_yes h1 h2, hm2]; rfl
      rw [HE.out]
      rw [h2] at cl
      have ht : (xs.take (m + 1)).length = m + 1 := by rw [List.length_take]; omega
      have hp2 : (xs.take (m + 1))[m]? = some (xs.getD m 0) := by rw [List.getElem?_take, if_pos (by omega)]; exact hpre
      have HT := Lib.hid (And.intro ht hp2)
      have HP := Lib.hid hpre
      rw [hm2]
      generalize xs.getD m 0 = q at *
      clear ht hp2 hpre hlast hm2 h2 h1 hm hc1 hb
      go_enter Try.func179, Try.ntmps179
      go_wp2_with fail
      refine (HCL.out _ (Below.refl _ _)).mono ?_
      rintro e w1 ⟨A1, c1, rfl, hw1, hcc1, hb1⟩
      obtain ⟨b1, off1, rfl, hbb, hlt, hcx, hfx⟩ := hw1 (by rw [HM.out]; omega)
      have x1 := hcx _ _ HP.out
      have f1 := hfx (off1 + m)
      have HW := Lib.hid hw1
      have HL1 : Hid (xs.length ≤ c1 ∧ c1 ≤ maxLen) := hcc1
      have hcm : m + 2 ≤ c1 := by
        have := hcc1.1
        rwa [HM.out] at this
      have hcmi : (m : Int) + 1 ≤ (c1 : Int) := by omega
      have hcl1 := (hb1.cell (p := ⟨b, off + (m + 1), none⟩) hb0).trans cl
      clear hcx hfx hw1 hcc1
      rw [HM.out]
      go_wp2
      go_ret
      exact RetCap.of (by have h := HT.out.1; rw [List.length_set]; omega) ((HW.out.take (m + 1)).setAt (by rw [HT.out.1]; omega)) (by rw [List.length_set, HT.out.1]; exact ⟨by omega, HL1.out.2⟩) (ext_set hb1 (by exact hbb) _)
    · have HE : Hid (shT xs = xs) := shT_no (fun h => h2 h.2)
      have hne : (xs.getD (xs.length - 1) 0 == 1) = false := by simpa using h2
      rw [HE.out, hm2]
      generalize xs.getD (xs.length - 1) 0 = q at *
      clear hlast hm2 h2 h1 hm hc1 hb hpre
      go_enter Try.func179, Try.ntmps179
      go_wp2_with (go_at_call 101; (with_reducible refine (HCL.out _ (Below.refl _ _)).mono ?_); rintro e w1 ⟨A1, c1, rfl, hw1, hcc1, hb1⟩; (try (have cl1 := (hb1.cell (p := ⟨b, off + (m + 1), none⟩) hb0).trans cl)))
      refine bodyPost_ret (v := .slice A1 xs.length c1) (by simp [results, Try.results179, go_sem]; done) rfl ⟨A1, c1, rfl, hw1, hcc1, hb1⟩
  · have HE : Hid (shT xs = xs) := shT_no (fun h => by omega)
    have h1n : ¬ 1 < xs.length := by omega
    have h1i : ¬ (1 : Int) < (xs.length : Int) := by omega
    rw [HE.out]
    have HCL : Hid (∀ W, Below w.heap.size w W → Calls Try.prog 101 #[.slice A xs.length c] W (RetCap W xs)) := fun W h => l00Own_any A c xs W ((hx.below h).more h.size) (by omega)
    go_enter Try.func179, Try.ntmps179
    go_wp2_with (go_at_call 101; (with_reducible refine (HCL.out _ (Below.refl _ _)).mono ?_); rintro e w1 ⟨A1, c1, rfl, hw1, hcc1, hb1⟩; (try (have cl1 := (hb1.cell (p := ⟨b, off + (m + 1), none⟩) hb0).trans cl)))
    refine bodyPost_ret (v := .slice A1 xs.length c1) (by simp [results, Try.results179, go_sem]; done) rfl ⟨A1, c1, rfl, hw1, hcc1, hb1⟩
end Go.Proofs.Ytgnifhegkjmgaaa
