/- Sources of terms: both walks. No condition but those that each theorem names. -/
import Derived.Test.YtgnifhegkjmgaaaTmP
import Derived.Test.YtgnifhegkjmgaaaBoxW
import Derived.IntWalk
namespace Go.Proofs.Ytgnifhegkjmgaaa
open Go.RowKit Go.Sort

@[reducible] def souV (H : Option Addr) (a ca : Nat) (P : Option Addr) (b cb : Nat) (G : Option Addr) (c cc : Nat) : Value := .agg #[.slice H a ca, .slice P b cb, .slice G c cc]
/-- The three slices read as a source. -/
structure RdSo (w : World) (B : Nat) (H P G : Option Addr) (s : So) : Prop where
  h : Rd (Value.int .i64) w B H s.hd
  p : Rd (Value.int .i64) w B P s.pd
  g : Rd (Value.int .i64) w B G s.gr
theorem RdSo.below {w w' : World} {B : Nat} {H P G : Option Addr} {s : So} (h : RdSo w B H P G s) (hb : Below B w w') : RdSo w' B H P G s := ⟨h.h.below hb, h.p.below hb, h.g.below hb⟩
theorem RdSo.more {w : World} {B B' : Nat} {H P G : Option Addr} {s : So} (h : RdSo w B H P G s) (hB : B ≤ B') : RdSo w B' H P G s := ⟨h.h.more hB, h.p.more hB, h.g.more hB⟩
theorem RdSo.next {w w' : World} {H P G : Option Addr} {s : So} (h : RdSo w w.heap.size H P G s) (hb : Below w.heap.size w w') : RdSo w' w'.heap.size H P G s := (h.below hb).more hb.size
/-- A source in block g. -/
structure SoAt (w : World) (g : Nat) (H P G : Option Addr) (ch cp cg : Nat) (s : So) : Prop where
  c0 : w.cell? ⟨g, 0, none⟩ = some (.slice H s.hd.length ch)
  c1 : w.cell? ⟨g, 1, none⟩ = some (.slice P s.pd.length cp)
  c2 : w.cell? ⟨g, 2, none⟩ = some (.slice G s.gr.length cg)
theorem SoAt.of_box {w : World} {g : Nat} {H P G : Option Addr} {ch cp cg : Nat} {s : So} (h : BoxV g [.slice H s.hd.length ch, .slice P s.pd.length cp, .slice G s.gr.length cg] w) : SoAt w g H P G ch cp cg s := ⟨h.at 0 _ rfl, h.at 1 _ rfl, h.at 2 _ rfl⟩
theorem SoAt.drewN {w : World} {g n : Nat} {H P G : Option Addr} {ch cp cg : Nat} {s : So} (h : SoAt w g H P G ch cp cg s) : SoAt (w.drewN n) g H P G ch cp cg s := ⟨h.c0, h.c1, h.c2⟩
theorem SoAt.below {w w' : World} {g B : Nat} {H P G : Option Addr} {ch cp cg : Nat} {s : So} (h : SoAt w g H P G ch cp cg s) (hb : Below B w w') (hg : g < B) : SoAt w' g H P G ch cp cg s :=
  ⟨(hb.cell (p := ⟨g, 0, none⟩) hg).trans h.c0, (hb.cell (p := ⟨g, 1, none⟩) hg).trans h.c1, (hb.cell (p := ⟨g, 2, none⟩) hg).trans h.c2⟩
theorem below_drewN {B n : Nat} {w w' : World} (h : Below B w w') : Below B w (w'.drewN n) := ⟨h.os, h.tape, h.output, h.size, h.block⟩
theorem sizeT_any (A : Option Addr) (n c : Nat) (w : World) : Calls Try.prog 166 #[.slice A n c] w fun e w' => e = .returned (.int .i64 (n : Int)) ∧ w = w' := by
  go_enter Try.func166, Try.ntmps166
  go_wp2
  go_ret
  exact ⟨rfl, rfl⟩

/-- What decides the tests ahead of the loops. -/
theorem soLen_bad {s : So} (h : ¬ (s.hd.length ≤ 30 ∧ s.pd.length ≤ 30 ∧ s.gr.length = s.pd.length ∧ s.hd.length + s.pd.length ≠ 0)) : soB s = false := by
  have : soLen s = false := by
    cases e : soLen s
    · rfl
    · exact absurd (soLen_true.1 e) h
  unfold soB
  rw [this, Bool.false_and]
set_option maxRecDepth 100000 in
set_option maxHeartbeats 2000000 in
theorem ValidSource_any (s : So) (H P G : Option Addr) (ch cp cg : Nat) (w : World) (hr : RdSo w w.heap.size H P G s) :
    Calls Try.prog 98 #[souV H s.hd.length ch P s.pd.length cp G s.gr.length cg] w fun e w' => e = .returned (.bool (soB s)) ∧ Below w.heap.size w w' := by
  unfold souV
  by_cases g1 : s.hd.length ≤ 30
  · have d1 : decide ((30 : Int) < (s.hd.length : Int)) = false := by simp; omega
    have d1n : decide (30 < s.hd.length) = false := by simp; omega
    by_cases g2 : s.pd.length ≤ 30
    · have d2 : decide ((30 : Int) < (s.pd.length : Int)) = false := by simp; omega
      have d2n : decide (30 < s.pd.length) = false := by simp; omega
      by_cases g3 : s.hd.length + s.pd.length = 0
      · have HE2 := Lib.hid (soLen_bad (s := s) (by omega))
        have d3 : ((s.hd.length : Int) + (s.pd.length : Int) == 0) = true := by simp; omega
        go_enter Try.func98, Try.ntmps98
        go_wp2
        go_ret
        exact ⟨ret_bool HE2.out.symm, ext1 _ _⟩
      · have d3 : ((s.hd.length : Int) + (s.pd.length : Int) == 0) = false := by simp; omega
        by_cases g4 : s.gr.length = s.pd.length
        · have HG := Lib.hid ((soLen_true (s := s)).2 ⟨g1, g2, g4, g3⟩)
          have G4 := Lib.hid g4
          have d4 : ((s.gr.length : Int) != (s.pd.length : Int)) = false := by simp; omega
          have d4n : (s.gr.length != s.pd.length) = false := by simp; omega
          have HR : Hid (RdSo (w.alloc (.cells #[.slice H s.hd.length ch, .slice P s.pd.length cp, .slice G s.gr.length cg] 41)) w.heap.size H P G s) := hr.below (ext1 _ _)
          have HE : Hid (Below w.heap.size w (w.alloc (.cells #[.slice H s.hd.length ch, .slice P s.pd.length cp, .slice G s.gr.length cg] 41))) := ext1 _ _
          have X : SoAt (w.alloc (.cells #[.slice H s.hd.length ch, .slice P s.pd.length cp, .slice G s.gr.length cg] 41)) w.heap.size H P G ch cp cg s := SoAt.of_box (BoxV.new w #[.slice H s.hd.length ch, .slice P s.pd.length cp, .slice G s.gr.length cg] 41)
          obtain ⟨x0, x1, x2⟩ := X
          clear g4
          go_enter Try.func98, Try.ntmps98
          go_wp2_with fail
          generalize w.alloc (.cells #[.slice H s.hd.length ch, .slice P s.pd.length cp, .slice G s.gr.length cg] 41) = W at *
          clear d1 d1n d2 d2n d3 d4 d4n
          go_loopw [39] (fun t wr => ∃ k : Nat, k ≤ s.hd.length ∧ t = .int .i64 k ∧ Hid (allTo (hdB s) k = true) ∧ ∃ n, wr = W.drewN n) (fun t _ => s.hd.length - (intOf t).toNat)
          case atStart => exact ⟨0, by omega, rfl, rfl, 0, rfl⟩
          case round =>
            obtain ⟨k, hk, rfl, HK, nn, rfl⟩ := hrel
            by_cases hlt : k < s.hd.length
            · obtain ⟨b, off, rfl, hb, hc⟩ := HR.out.h (by omega)
              have cx := hc k _ (getD_of hlt)
              have HB : Hid (hdB s k = inR (s.hd.getD k 0) (if k = 0 then -1000000000 else 1) 1000000000) := rfl
              have i0 : (0 : Int) ≤ (k : Int) := by omega
              have i1 : (k : Int) < (s.hd.length : Int) := by omega
              have HF : Hid (hdB s k = false → soB s = false) := fun h => by
                unfold soB
                rw [allTo_false h _ hlt]
                simp
              clear hc
              generalize s.hd.getD k 0 = t at *
              by_cases hk0 : k = 0
              · have e0 : ((k : Int) == 0) = true := by simpa using hk0
                rw [if_pos hk0] at HB
                clear hk0
                cases hin : inR t (-1000000000) 1000000000
                · rw [hin] at HB
                  have HE2 := Lib.hid (HF.out HB.out)
                  clear HB HF
                  go_wp2_with (go_at_call 77; refine (within_is hin _).mono ?_; rintro e w' ⟨rfl, rfl⟩)
                  go_ret
                  exact ⟨ret_bool HE2.out.symm, below_drewN HE.out⟩
                · rw [hin] at HB
                  have HE2 := Lib.hid (allTo_succ HK.out HB.out)
                  clear HB HF
                  go_wp2_with (go_at_call 77; refine (within_is hin _).mono ?_; rintro e w' ⟨rfl, rfl⟩)
                  go_roundw
                  case rel => exact ⟨k + 1, by omega, by go_num, HE2.out, _, rfl⟩
                  case measure => simp [intOf]; omega
              · have e0 : ((k : Int) == 0) = false := by simpa using hk0
                rw [if_neg hk0] at HB
                clear hk0
                cases hin : inR t 1 1000000000
                · rw [hin] at HB
                  have HE2 := Lib.hid (HF.out HB.out)
                  clear HB HF
                  go_wp2_with (go_at_call 77; refine (within_is hin _).mono ?_; rintro e w' ⟨rfl, rfl⟩)
                  go_ret
                  exact ⟨ret_bool HE2.out.symm, below_drewN HE.out⟩
                · rw [hin] at HB
                  have HE2 := Lib.hid (allTo_succ HK.out HB.out)
                  clear HB HF
                  go_wp2_with (go_at_call 77; refine (within_is hin _).mono ?_; rintro e w' ⟨rfl, rfl⟩)
                  go_roundw
                  case rel => exact ⟨k + 1, by omega, by go_num, HE2.out, _, rfl⟩
                  case measure => simp [intOf]; omega
            · have HH : Hid (allTo (hdB s) s.hd.length = true) := by
                have h := HK.out
                rwa [show k = s.hd.length by omega] at h
              have i1 : ¬ (k : Int) < (s.hd.length : Int) := by omega
              clear HK
              go_wp2_with fail
              go_loopw [54] (fun t wr => ∃ k : Nat, k ≤ s.pd.length ∧ t = .int .i64 k ∧ Hid (allTo (pgB s) k = true) ∧ ∃ n, wr = W.drewN n) (fun t _ => s.pd.length - (intOf t).toNat)
              case atStart => exact ⟨0, by omega, rfl, rfl, _, rfl⟩
              case round =>
                clear i1 hlt hk
                obtain ⟨k, hk, rfl, HK, nn, rfl⟩ := hrel
                by_cases hlt : k < s.pd.length
                · obtain ⟨b, off, rfl, hb, hc⟩ := HR.out.p (by omega)
                  obtain ⟨b', off', rfl, hb', hc'⟩ := HR.out.g (by have := G4.out; omega)
                  have cx := hc k _ (getD_of hlt)
                  have cy := hc' k _ (getD_of (by have := G4.out; omega))
                  have HB : Hid (pgB s k = (inR (s.pd.getD k 0) 1 1000000 && inR (s.gr.getD k 0) 0 1000000)) := rfl
                  have i0 : (0 : Int) ≤ (k : Int) := by omega
                  have i1 : (k : Int) < (s.pd.length : Int) := by omega
                  have i2 : (k : Int) < (s.gr.length : Int) := by have := G4.out; omega
                  have HF : Hid (pgB s k = false → soB s = false) := fun h => by
                    unfold soB
                    rw [allTo_false h _ hlt]
                    simp
                  clear hc hc'
                  generalize s.pd.getD k 0 = t at *
                  generalize s.gr.getD k 0 = u at *
                  cases hin : inR t 1 1000000
                  · rw [hin, Bool.false_and] at HB
                    have HE2 := Lib.hid (HF.out HB.out)
                    clear HB HF
                    go_wp2_with (go_at_call 77; refine (within_is hin _).mono ?_; rintro e w' ⟨rfl, rfl⟩)
                    go_ret
                    exact ⟨ret_bool HE2.out.symm, below_drewN HE.out⟩
                  · cases hin2 : inR u 0 1000000
                    · rw [hin, hin2, Bool.and_false] at HB
                      have HE2 := Lib.hid (HF.out HB.out)
                      clear HB HF
                      go_wp2_with (go_at_call 77; first | ((with_reducible refine (within_is hin _).mono ?_); rintro e w' ⟨rfl, rfl⟩) | ((with_reducible refine (within_is hin2 _).mono ?_); rintro e w' ⟨rfl, rfl⟩))
                      go_ret
                      exact ⟨ret_bool HE2.out.symm, below_drewN HE.out⟩
                    · rw [hin, hin2, Bool.and_true] at HB
                      have HE2 := Lib.hid (allTo_succ HK.out HB.out)
                      clear HB HF
                      go_wp2_with (go_at_call 77; first | ((with_reducible refine (within_is hin _).mono ?_); rintro e w' ⟨rfl, rfl⟩) | ((with_reducible refine (within_is hin2 _).mono ?_); rintro e w' ⟨rfl, rfl⟩))
                      go_roundw
                      case rel => exact ⟨k + 1, by omega, by go_num, HE2.out, _, rfl⟩
                      case measure => simp [intOf]; omega
                · have HE2 : Hid (soB s = true) := by
                    have h := HK.out
                    rw [show k = s.pd.length by omega] at h
                    unfold Hid soB
                    rw [HG.out, HH.out, h]; rfl
                  have i1 : ¬ (k : Int) < (s.pd.length : Int) := by omega
                  go_wp2
                  go_ret
                  exact ⟨ret_bool HE2.out.symm, below_drewN HE.out⟩
        · have HE2 := Lib.hid (soLen_bad (s := s) (by omega))
          have d4 : ((s.gr.length : Int) != (s.pd.length : Int)) = true := by simp; omega
          have d4n : (s.gr.length != s.pd.length) = true := by simp; omega
          go_enter Try.func98, Try.ntmps98
          go_wp2
          go_ret
          exact ⟨ret_bool HE2.out.symm, ext1 _ _⟩
    · have HE2 := Lib.hid (soLen_bad (s := s) (by omega))
      have d2 : decide ((30 : Int) < (s.pd.length : Int)) = true := by simp; omega
      have d2n : decide (30 < s.pd.length) = true := by simp; omega
      go_enter Try.func98, Try.ntmps98
      go_wp2
      go_ret
      exact ⟨ret_bool HE2.out.symm, ext1 _ _⟩
  · have HE2 := Lib.hid (soLen_bad (s := s) (by omega))
    have d1 : decide ((30 : Int) < (s.hd.length : Int)) = true := by simp; omega
    have d1n : decide (30 < s.hd.length) = true := by simp; omega
    go_enter Try.func98, Try.ntmps98
    go_wp2
    go_ret
    exact ⟨ret_bool HE2.out.symm, ext1 _ _⟩
set_option maxRecDepth 100000 in
set_option maxHeartbeats 2000000 in
theorem l15Ok_any (s : So) (g : Nat) (H P G : Option Addr) (ch cp cg : Nat) (W : World) (hr : RdSo W W.heap.size H P G s) (ha : SoAt W g H P G ch cp cg s) :
    Calls Try.prog 158 #[.pointer (some ⟨g, 0, none⟩)] W fun e w' => e = .returned (.bool (soB s)) ∧ Below W.heap.size W w' := by
  obtain ⟨x0, x1, x2⟩ := ha
  have HR := Lib.hid hr
  have HE := Lib.hid (Below.refl W.heap.size W)
  clear hr
  by_cases g1 : s.hd.length ≤ 30
  · have d1 : decide ((30 : Int) < (s.hd.length : Int)) = false := by simp; omega
    have d1n : decide (30 < s.hd.length) = false := by simp; omega
    by_cases g2 : s.pd.length ≤ 30
    · have d2 : decide ((30 : Int) < (s.pd.length : Int)) = false := by simp; omega
      have d2n : decide (30 < s.pd.length) = false := by simp; omega
      by_cases g4 : s.gr.length = s.pd.length
      · have d4 : ((s.gr.length : Int) != (s.pd.length : Int)) = false := by simp; omega
        have d4n : (s.gr.length != s.pd.length) = false := by simp; omega
        by_cases g3 : s.hd.length + s.pd.length = 0
        · have HE2 := Lib.hid (soLen_bad (s := s) (by omega))
          have d3 : ((s.hd.length : Int) + (s.pd.length : Int) == 0) = true := by simp; omega
          clear g4
          go_enter Try.func158, Try.ntmps158
          go_wp2_with fail
          go_quiet (fail)
          go_wp2
          go_ret
          exact ⟨ret_bool HE2.out.symm, below_drewN HE.out⟩
        · have HG := Lib.hid ((soLen_true (s := s)).2 ⟨g1, g2, g4, g3⟩)
          have G4 := Lib.hid g4
          have d3 : ((s.hd.length : Int) + (s.pd.length : Int) == 0) = false := by simp; omega
          clear g4
          go_enter Try.func158, Try.ntmps158
          go_wp2_with fail
          go_quiet (fail)
          go_wp2_with fail
          clear d1 d1n d2 d2n d3 d4 d4n
          go_loopw [3] (fun t wr => ∃ k : Nat, k ≤ s.hd.length ∧ t = .int .i64 k ∧ Hid (allTo (hdB s) k = true) ∧ ∃ n, wr = W.drewN n) (fun t _ => s.hd.length - (intOf t).toNat)
          case atStart => exact ⟨0, by omega, rfl, rfl, _, rfl⟩
          case round =>
            obtain ⟨k, hk, rfl, HK, nn, rfl⟩ := hrel
            by_cases hlt : k < s.hd.length
            · obtain ⟨b, off, rfl, hb, hc⟩ := HR.out.h (by omega)
              have cx := hc k _ (getD_of hlt)
              have HB : Hid (hdB s k = inR (s.hd.getD k 0) (if k = 0 then -1000000000 else 1) 1000000000) := rfl
              have i0 : (0 : Int) ≤ (k : Int) := by omega
              have i1 : (k : Int) < (s.hd.length : Int) := by omega
              have HF : Hid (hdB s k = false → soB s = false) := fun h => by
                unfold soB
                rw [allTo_false h _ hlt]
                simp
              clear hc
              generalize s.hd.getD k 0 = t at *
              by_cases hk0 : k = 0
              · have e0 : ((k : Int) == 0) = true := by simpa using hk0
                rw [if_pos hk0] at HB
                clear hk0
                cases hin : inR t (-1000000000) 1000000000
                · rw [hin] at HB
                  have HE2 := Lib.hid (HF.out HB.out)
                  clear HB HF
                  go_wp2_with (go_at_call 92; refine (l00In_is hin _).mono ?_; rintro e w' ⟨rfl, rfl⟩)
                  go_ret
                  exact ⟨ret_bool HE2.out.symm, below_drewN HE.out⟩
                · rw [hin] at HB
                  have HE2 := Lib.hid (allTo_succ HK.out HB.out)
                  clear HB HF
                  go_wp2_with (go_at_call 92; refine (l00In_is hin _).mono ?_; rintro e w' ⟨rfl, rfl⟩)
                  go_roundw
                  case rel => exact ⟨k + 1, by omega, by go_num, HE2.out, _, rfl⟩
                  case measure => simp [intOf]; omega
              · have e0 : ((k : Int) == 0) = false := by simpa using hk0
                rw [if_neg hk0] at HB
                clear hk0
                cases hin : inR t 1 1000000000
                · rw [hin] at HB
                  have HE2 := Lib.hid (HF.out HB.out)
                  clear HB HF
                  go_wp2_with (go_at_call 92; refine (l00In_is hin _).mono ?_; rintro e w' ⟨rfl, rfl⟩)
                  go_ret
                  exact ⟨ret_bool HE2.out.symm, below_drewN HE.out⟩
                · rw [hin] at HB
                  have HE2 := Lib.hid (allTo_succ HK.out HB.out)
                  clear HB HF
                  go_wp2_with (go_at_call 92; refine (l00In_is hin _).mono ?_; rintro e w' ⟨rfl, rfl⟩)
                  go_roundw
                  case rel => exact ⟨k + 1, by omega, by go_num, HE2.out, _, rfl⟩
                  case measure => simp [intOf]; omega
            · have HH : Hid (allTo (hdB s) s.hd.length = true) := by
                have h := HK.out
                rwa [show k = s.hd.length by omega] at h
              have i1 : ¬ (k : Int) < (s.hd.length : Int) := by omega
              clear HK
              go_wp2_with fail
              go_loopw [5] (fun t wr => ∃ k : Nat, k ≤ s.pd.length ∧ t = .int .i64 k ∧ Hid (allTo (pgB s) k = true) ∧ ∃ n, wr = W.drewN n) (fun t _ => s.pd.length - (intOf t).toNat)
              case atStart => exact ⟨0, by omega, rfl, rfl, _, rfl⟩
              case round =>
                clear i1 hlt hk
                obtain ⟨k, hk, rfl, HK, nn, rfl⟩ := hrel
                by_cases hlt : k < s.pd.length
                · obtain ⟨b, off, rfl, hb, hc⟩ := HR.out.p (by omega)
                  obtain ⟨b', off', rfl, hb', hc'⟩ := HR.out.g (by have := G4.out; omega)
                  have cx := hc k _ (getD_of hlt)
                  have cy := hc' k _ (getD_of (by have := G4.out; omega))
                  have HB : Hid (pgB s k = (inR (s.pd.getD k 0) 1 1000000 && inR (s.gr.getD k 0) 0 1000000)) := rfl
                  have i0 : (0 : Int) ≤ (k : Int) := by omega
                  have i1 : (k : Int) < (s.pd.length : Int) := by omega
                  have i2 : (k : Int) < (s.gr.length : Int) := by have := G4.out; omega
                  have HF : Hid (pgB s k = false → soB s = false) := fun h => by
                    unfold soB
                    rw [allTo_false h _ hlt]
                    simp
                  clear hc hc'
                  generalize s.pd.getD k 0 = t at *
                  generalize s.gr.getD k 0 = u at *
                  cases hin : inR t 1 1000000
                  · rw [hin, Bool.false_and] at HB
                    have HE2 := Lib.hid (HF.out HB.out)
                    clear HB HF
                    go_wp2_with (go_at_call 92; refine (l00In_is hin _).mono ?_; rintro e w' ⟨rfl, rfl⟩)
                    go_ret
                    exact ⟨ret_bool HE2.out.symm, below_drewN HE.out⟩
                  · cases hin2 : inR u 0 1000000
                    · rw [hin, hin2, Bool.and_false] at HB
                      have HE2 := Lib.hid (HF.out HB.out)
                      clear HB HF
                      go_wp2_with (go_at_call 92; first | ((with_reducible refine (l00In_is hin _).mono ?_); rintro e w' ⟨rfl, rfl⟩) | ((with_reducible refine (l00In_is hin2 _).mono ?_); rintro e w' ⟨rfl, rfl⟩))
                      go_ret
                      exact ⟨ret_bool HE2.out.symm, below_drewN HE.out⟩
                    · rw [hin, hin2, Bool.and_true] at HB
                      have HE2 := Lib.hid (allTo_succ HK.out HB.out)
                      clear HB HF
                      go_wp2_with (go_at_call 92; first | ((with_reducible refine (l00In_is hin _).mono ?_); rintro e w' ⟨rfl, rfl⟩) | ((with_reducible refine (l00In_is hin2 _).mono ?_); rintro e w' ⟨rfl, rfl⟩))
                      go_roundw
                      case rel => exact ⟨k + 1, by omega, by go_num, HE2.out, _, rfl⟩
                      case measure => simp [intOf]; omega
                · have HE2 : Hid (soB s = true) := by
                    have h := HK.out
                    rw [show k = s.pd.length by omega] at h
                    unfold Hid soB
                    rw [HG.out, HH.out, h]; rfl
                  have i1 : ¬ (k : Int) < (s.pd.length : Int) := by omega
                  go_wp2
                  go_ret
                  exact ⟨ret_bool HE2.out.symm, below_drewN HE.out⟩
      · have HE2 := Lib.hid (soLen_bad (s := s) (by omega))
        have d4 : ((s.gr.length : Int) != (s.pd.length : Int)) = true := by simp; omega
        have d4n : (s.gr.length != s.pd.length) = true := by simp; omega
        go_enter Try.func158, Try.ntmps158
        go_wp2_with fail
        go_quiet (fail)
        go_wp2
        go_ret
        exact ⟨ret_bool HE2.out.symm, below_drewN HE.out⟩
    · have HE2 := Lib.hid (soLen_bad (s := s) (by omega))
      have d2 : decide ((30 : Int) < (s.pd.length : Int)) = true := by simp; omega
      have d2n : decide (30 < s.pd.length) = true := by simp; omega
      go_enter Try.func158, Try.ntmps158
      go_wp2_with fail
      go_quiet (fail)
      go_wp2
      go_ret
      exact ⟨ret_bool HE2.out.symm, below_drewN HE.out⟩
  · have HE2 := Lib.hid (soLen_bad (s := s) (by omega))
    have d1 : decide ((30 : Int) < (s.hd.length : Int)) = true := by simp; omega
    have d1n : decide (30 < s.hd.length) = true := by simp; omega
    go_enter Try.func158, Try.ntmps158
    go_wp2_with fail
    go_quiet (fail)
    go_wp2
    go_ret
    exact ⟨ret_bool HE2.out.symm, below_drewN HE.out⟩
end Go.Proofs.Ytgnifhegkjmgaaa
