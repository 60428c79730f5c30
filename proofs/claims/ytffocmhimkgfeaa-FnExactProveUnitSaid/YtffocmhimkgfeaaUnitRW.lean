/- The least unit: UnitOf, both sides. No condition but those that each theorem names. -/
import Derived.Test.YtffocmhimkgfeaaUnitTW
namespace Go.Proofs.Ytffocmhimkgfeaa
open Go.RowKit Go.Sort

noncomputable def utC (d : Int) : Int := if pcC d = 0 then (if (unR d).isSome = true then 0 else 5) else pcC d
def RetUo (w : World) (R : Option (Int × Int)) (c : Int) (e : Ending) (w' : World) : Prop :=
  ∃ P0 P1 N : Int, e = .returned (.tuple #[pairV P0 P1, .int .i64 N, .int .i64 c]) ∧ (c = 0 → R = some (P0, P1)) ∧ Below w.heap.size w w'
theorem utC_bad {d : Int} (h : ¬ pcC d = 0) : utC d = pcC d := by simp [utC, h]
theorem utC_none {d : Int} (h : pcC d = 0) (h2 : unR d = none) : utC d = 5 := by simp [utC, h, h2]
theorem utC_some {d : Int} {p : Int × Int} (h : pcC d = 0) (h2 : unR d = some p) : utC d = 0 := by simp [utC, h, h2]
theorem utC_zero {d : Int} (h : utC d = 0) : pcC d = 0 ∧ ∃ p, unR d = some p := by
  by_cases h1 : pcC d = 0
  · refine ⟨h1, ?_⟩
    cases h2 : unR d with
    | none => rw [utC_none h1 h2] at h; omega
    | some p => exact ⟨p, rfl⟩
  · exact absurd ((utC_bad h1).symm.trans h) h1
theorem pcC_in (d : Int) : 0 ≤ pcC d ∧ pcC d ≤ 6 := by
  unfold pcC
  split <;> (try split) <;> omega
set_option maxRecDepth 100000 in
set_option maxHeartbeats 2000000 in
theorem utI_any (d : Int) (w : World) : Calls Try.prog 138 #[.int .i64 d] w (RetUo w (unR d) (utC d)) := by
  have HK := Lib.hid (fun W : World => checkPell_any d W)
  have B2 : BoxV w.heap.size [.int .i64 0, .int .i64 0] (w.alloc (.cells #[.int .i64 0, .int .i64 0] 154)) := BoxV.new w #[.int .i64 0, .int .i64 0] 154
  have HB := Lib.hid (ext1 w (.cells #[.int .i64 0, .int .i64 0] 154))
  by_cases h0 : pcC d = 0
  · obtain ⟨h1, h2, h3⟩ := pcC_zero h0
    rw [h0] at HK
    have HU := Lib.hid (fun W : World => unit_any d W h1 h2 h3)
    have HC0 : Hid (unR d = none → utC d = 5) := fun h => utC_none h0 h
    have HC1 : Hid (∀ p, unR d = some p → utC d = 0) := fun p h => utC_some h0 h
    clear h0 h1 h2 h3
    generalize utC d = cd at *
    generalize unR d = R at *
    cases R with
    | none =>
      have HC := Lib.hid (HC0.out rfl)
      clear HC0 HC1
      go_enter Try.func138, Try.ntmps138
      go_wp2_with fail
      refine (HK.out _).mono ?_
      rintro e w1 ⟨rfl, rfl⟩
      go_wp2_with fail
      refine (HU.out _).mono ?_
      rintro e w1 ⟨N, rfl, hb1⟩
      generalize hP0 : ((none : Option (Int × Int)).getD (0, 0)).1 = P0 at *
      generalize hP1 : ((none : Option (Int × Int)).getD (0, 0)).2 = P1 at *
      have B3 := B2.next hb1
      have HB3 := Lib.hid (ext_trans HB.out hb1)
      simp only [Option.isSome_none]
      have B4 := B3.alloc (.cells #[.int .i64 P0, .int .i64 P1] 154)
      have HB4 := Lib.hid (ext_alloc HB3.out (.cells #[.int .i64 P0, .int .i64 P1] 154))
      have y0 := B4.at 0 _ rfl
      have y1 := B4.at 1 _ rfl
      have F0 := B4.f 0
      have F1 := B4.f 1
      obtain ⟨s0, s1⟩ := set_two y0 y1
      go_wp2
      exact bodyPost_ret (v := .tuple #[pairV 0 0, .int .i64 0, .int .i64 5]) (by simp [results, Try.results138, go_sem, s0, s1]; done) rfl ⟨0, 0, 0, by rw [HC.out], (fun h => by rw [HC.out] at h; omega), ext_set (ext_set HB4.out (by simp) _) (by simp) _⟩
    | some p =>
      obtain ⟨p1, p2⟩ := p
      have HC := Lib.hid (HC1.out _ rfl)
      clear HC0 HC1
      go_enter Try.func138, Try.ntmps138
      go_wp2_with fail
      refine (HK.out _).mono ?_
      rintro e w1 ⟨rfl, rfl⟩
      go_wp2_with fail
      refine (HU.out _).mono ?_
      rintro e w1 ⟨N, rfl, hb1⟩
      simp only [Option.getD_some]
      have B3 := B2.next hb1
      have HB3 := Lib.hid (ext_trans HB.out hb1)
      simp only [Option.isSome_some]
      have B4 := B3.alloc (.cells #[.int .i64 p1, .int .i64 p2] 154)
      have B5 := BoxV.new w1 #[.int .i64 p1, .int .i64 p2] 154
      have HB4 := Lib.hid (ext_alloc HB3.out (.cells #[.int .i64 p1, .int .i64 p2] 154))
      have y0 := B4.at 0 _ rfl
      have y1 := B4.at 1 _ rfl
      have F0 := B4.f 0
      have F1 := B4.f 1
      have z0 := B5.at 0 _ rfl
      have z1 := B5.at 1 _ rfl
      obtain ⟨s0, s1⟩ := set_two y0 y1
      go_wp2
      exact bodyPost_ret (v := .tuple #[pairV p1 p2, .int .i64 N, .int .i64 0]) (by simp [results, Try.results138, go_sem, s0, s1]; done) rfl ⟨p1, p2, N, by rw [HC.out], (fun _ => rfl), ext_set (ext_set HB4.out (by simp) _) (by simp) _⟩
  · have HC := Lib.hid (utC_bad h0)
    rw [HC.out]
    have t0 : (pcC d != 0) = true := by simpa using h0
    have HZ := Lib.hid h0
    clear h0
    generalize pcC d = cd at *
    go_enter Try.func138, Try.ntmps138
    go_wp2_with fail
    refine (HK.out _).mono ?_
    rintro e w1 ⟨rfl, rfl⟩
    go_wp2
    exact bodyPost_ret (v := .tuple #[pairV 0 0, .int .i64 0, .int .i64 cd]) (by simp [results, Try.results138, go_sem]; done) rfl ⟨0, 0, 0, rfl, (fun h => absurd h HZ.out), HB.out⟩
set_option maxRecDepth 100000 in
set_option maxHeartbeats 2000000 in
theorem utS_any (d : Int) (w : World) : Calls Try.prog 136 #[.int .i64 d] w (RetUo w (unR d) (utC d)) := by
  have HK := Lib.hid (fun W : World => l09D_any d W)
  have B2 : BoxV w.heap.size [.int .i64 0, .int .i64 0] (w.alloc (.cells #[.int .i64 0, .int .i64 0] 154)) := BoxV.new w #[.int .i64 0, .int .i64 0] 154
  have HB := Lib.hid (ext1 w (.cells #[.int .i64 0, .int .i64 0] 154))
  by_cases h0 : pcC d = 0
  · obtain ⟨h1, h2, h3⟩ := pcC_zero h0
    rw [h0] at HK
    have HU := Lib.hid (fun W : World => l09Unit_any d W h1 h2 h3)
    have HC0 : Hid (unR d = none → utC d = 5) := fun h => utC_none h0 h
    have HC1 : Hid (∀ p, unR d = some p → utC d = 0) := fun p h => utC_some h0 h
    clear h0 h1 h2 h3
    generalize utC d = cd at *
    generalize unR d = R at *
    cases R with
    | none =>
      have HC := Lib.hid (HC0.out rfl)
      clear HC0 HC1
      go_enter Try.func136, Try.ntmps136
      go_wp2_with fail
      refine (HK.out _).mono ?_
      rintro e w1 ⟨rfl, rfl⟩
      go_wp2_with fail
      refine (HU.out _).mono ?_
      rintro e w1 ⟨P0, P1, rfl, hP, hb1⟩
      have B3 := B2.next hb1
      have HB3 := Lib.hid (ext_trans HB.out hb1)
      simp only [Option.isSome_none]
      have B4 := B3.alloc (.cells #[.int .i64 P0, .int .i64 P1] 154)
      have HB4 := Lib.hid (ext_alloc HB3.out (.cells #[.int .i64 P0, .int .i64 P1] 154))
      have y0 := B4.at 0 _ rfl
      have y1 := B4.at 1 _ rfl
      have F0 := B4.f 0
      have F1 := B4.f 1
      obtain ⟨s0, s1⟩ := set_two y0 y1
      go_wp2
      exact bodyPost_ret (v := .tuple #[pairV 0 0, .int .i64 0, .int .i64 5]) (by simp [results, Try.results136, go_sem, s0, s1]; done) rfl ⟨0, 0, 0, by rw [HC.out], (fun h => by rw [HC.out] at h; omega), ext_set (ext_set HB4.out (by simp) _) (by simp) _⟩
    | some p =>
      obtain ⟨p1, p2⟩ := p
      have HC := Lib.hid (HC1.out _ rfl)
      clear HC0 HC1
      go_enter Try.func136, Try.ntmps136
      go_wp2_with fail
      refine (HK.out _).mono ?_
      rintro e w1 ⟨rfl, rfl⟩
      go_wp2_with fail
      refine (HU.out _).mono ?_
      rintro e w1 ⟨P0, P1, rfl, hP, hb1⟩
      have B3 := B2.next hb1
      have HB3 := Lib.hid (ext_trans HB.out hb1)
      simp only [Option.isSome_some]
      obtain ⟨rfl, rfl⟩ := hP _ _ rfl
      have k1 : IntKind.i64.wrap ((pdN d : Int).tmod 2 * 2) = (pdN d : Int).tmod 2 * 2 := by rw [Int.tmod_eq_emod_of_nonneg (by omega)]; exact IntWalk.i64_in _ (by omega)
      have k2 : IntKind.i64.wrap (1 - (pdN d : Int).tmod 2 * 2) = 1 - (pdN d : Int).tmod 2 * 2 := by rw [Int.tmod_eq_emod_of_nonneg (by omega)]; exact IntWalk.i64_in _ (by omega)
      have k3 : (pdN d : Int).tmod 2 = (pdN d : Int) % 2 := Int.tmod_eq_emod_of_nonneg (by omega)
      rw [k3] at k1 k2
      have B4 := B3.alloc (.cells #[.int .i64 P0, .int .i64 P1] 154)
      have B5 := BoxV.new w1 #[.int .i64 P0, .int .i64 P1] 154
      have HB4 := Lib.hid (ext_alloc HB3.out (.cells #[.int .i64 P0, .int .i64 P1] 154))
      have y0 := B4.at 0 _ rfl
      have y1 := B4.at 1 _ rfl
      have F0 := B4.f 0
      have F1 := B4.f 1
      have z0 := B5.at 0 _ rfl
      have z1 := B5.at 1 _ rfl
      obtain ⟨s0, s1⟩ := set_two y0 y1
      go_wp2
      exact bodyPost_ret (v := .tuple #[pairV P0 P1, .int .i64 (1 - (pdN d : Int) % 2 * 2), .int .i64 0]) (by simp [results, Try.results136, go_sem, s0, s1]; done) rfl ⟨P0, P1, (1 - (pdN d : Int) % 2 * 2), by rw [HC.out], (fun _ => rfl), ext_set (ext_set HB4.out (by simp) _) (by simp) _⟩
  · have HC := Lib.hid (utC_bad h0)
    rw [HC.out]
    have t0 : (pcC d != 0) = true := by simpa using h0
    have HZ := Lib.hid h0
    clear h0
    generalize pcC d = cd at *
    go_enter Try.func136, Try.ntmps136
    go_wp2_with fail
    refine (HK.out _).mono ?_
    rintro e w1 ⟨rfl, rfl⟩
    go_wp2
    exact bodyPost_ret (v := .tuple #[pairV 0 0, .int .i64 0, .int .i64 cd]) (by simp [results, Try.results136, go_sem]; done) rfl ⟨0, 0, 0, rfl, (fun h => absurd h HZ.out), HB.out⟩
end Go.Proofs.Ytffocmhimkgfeaa
