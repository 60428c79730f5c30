/- The program's sources in short form, and how two of them compare: the walks. No condition but those that each theorem names. -/
import Derived.Test.YtgnifhegkjmgaaaShortW
import Derived.Test.YtgnifhegkjmgaaaTmTW
import Derived.Test.YtgnifhegkjmgaaaErrW
namespace Go.Proofs.Ytgnifhegkjmgaaa
open Go.RowKit Go.Sort

@[reducible] def shV (H : Option Addr) (a ca : Nat) (P : Option Addr) (b cb : Nat) (G : Option Addr) (c cc : Nat) (L : Option Addr) (n cl : Nat) (fin : Bool) : Value := .agg #[.slice H a ca, .slice P b cb, .slice G c cc, .slice L n cl, .bool fin]
/-- A source in short form whose terms are f. -/
def ShOk (w : World) (B : Nat) (H : Option Addr) (a : Nat) (P : Option Addr) (b : Nat) (G : Option Addr) (c : Nat) (L : Option Addr) (n : Nat) (fin : Bool) (f : Nat → Option Int) : Prop :=
  (fin = true ∧ ∃ xs : List Int, n = xs.length ∧ Rd (Value.int .i64) w B L xs ∧ xs.length ≤ 1000 ∧ ∀ k, f k = xs[k]?) ∨
  (fin = false ∧ ∃ s : So, a = s.hd.length ∧ b = s.pd.length ∧ c = s.gr.length ∧ RdSo w B H P G s ∧ TmB s ∧ ∀ k, f k = tmS s k)
theorem ShOk.next {w w' : World} {H P G L : Option Addr} {a b c n : Nat} {fin : Bool} {f : Nat → Option Int} (h : ShOk w w.heap.size H a P b G c L n fin f) (hb : Below w.heap.size w w') : ShOk w' w'.heap.size H a P b G c L n fin f := by
  rcases h with ⟨h1, xs, h2, h3, h4⟩ | ⟨h1, s, h2, h3, h4, h5, h6⟩
  · exact .inl ⟨h1, xs, h2, (h3.below hb).more hb.size, h4⟩
  · exact .inr ⟨h1, s, h2, h3, h4, h5.next hb, h6⟩
set_option maxHeartbeats 1000000 in
theorem shAt_any (H : Option Addr) (a ca : Nat) (P : Option Addr) (b cb : Nat) (G : Option Addr) (c cc : Nat) (L : Option Addr) (n cl : Nat) (fin : Bool) (f : Nat → Option Int) (k : Nat) (w : World) (h : ShOk w w.heap.size H a P b G c L n fin f) (hk : k ≤ 1000) :
    Calls Try.prog 140 #[shV H a ca P b cb G c cc L n cl fin, .int .i64 (k : Int)] w fun e w' => e = .returned (.tuple #[.int .i64 ((f k).getD 0), .bool (f k).isSome]) ∧ Below w.heap.size w w' := by
  unfold shV
  rcases h with ⟨rfl, xs, rfl, h3, h4, h5⟩ | ⟨rfl, s, rfl, rfl, rfl, h5, h6, h7⟩
  · rw [h5 k]
    clear h5 f
    by_cases hlt : k < xs.length
    · obtain ⟨bb, off, rfl, hb, hc⟩ := h3 (by omega)
      have cx : (w.alloc (.cells #[.slice H a ca, .slice P b cb, .slice G c cc, .slice (some ⟨bb, off, none⟩) xs.length cl, .bool true] 152)).cell? ⟨bb, off + k, none⟩ = some (.int .i64 xs[k]) := (World.cell?_alloc_lt _ _ _ hb).trans (hc k _ (List.getElem?_eq_getElem hlt))
      have i0 : (0 : Int) ≤ (k : Int) := by omega
      have i1 : (k : Int) < (xs.length : Int) := by omega
      have HE : Hid (xs[k]? = some xs[k]) := List.getElem?_eq_getElem hlt
      rw [HE.out]
      clear hc HE
      generalize xs[k] = t at *
      go_enter Try.func140, Try.ntmps140
      go_wp2_with (go_at_call 166; refine (sizeT_any _ _ _ _).mono ?_; rintro e w' ⟨rfl, rfl⟩)
      go_ret2
      exact ⟨rfl, ext1 _ _⟩
    · have i1 : ¬ (k : Int) < (xs.length : Int) := by omega
      have HE : Hid (xs[k]? = none) := List.getElem?_eq_none (by omega)
      rw [HE.out]
      clear h3 HE
      go_enter Try.func140, Try.ntmps140
      go_wp2_with (go_at_call 166; refine (sizeT_any _ _ _ _).mono ?_; rintro e w' ⟨rfl, rfl⟩)
      go_ret2
      exact ⟨rfl, ext1 _ _⟩
  · rw [h7 k]
    have HT := Lib.hid (termAt_any s H P G ca cb cc k _ (h5.next (ext1 w (.cells #[.slice H s.hd.length ca, .slice P s.pd.length cb, .slice G s.gr.length cc, .slice L n cl, .bool false] 152))) h6 (by omega))
    clear h5 h6 h7 f
    unfold souV at HT
    generalize tmS s k = t at *
    generalize s.hd.length = nh at *
    generalize s.pd.length = np at *
    generalize s.gr.length = ng at *
    go_enter Try.func140, Try.ntmps140
    go_wp2_with (go_at_call 169; (with_reducible refine HT.out.mono ?_); rintro e w1 ⟨rfl, hb1⟩)
    go_ret2
    exact ⟨rfl, ext_trans (ext1 _ _) hb1⟩
theorem sgK_even {k : Nat} (h : k % 2 = 0) : sgK k = 1 := if_pos h
theorem sgK_odd {k : Nat} (h : ¬ k % 2 = 0) : sgK k = -1 := if_neg h
theorem parity (k : Nat) : (sgK k = 1 ∧ (k : Int) % 2 = 0 ∧ (k : Int).tmod 2 = 0) ∨ (sgK k = -1 ∧ (k : Int) % 2 = 1 ∧ (k : Int).tmod 2 = 1) := by
  by_cases h : k % 2 = 0
  · exact .inl ⟨sgK_even h, by omega, by rw [Int.tmod_eq_emod_of_nonneg (by omega)]; omega⟩
  · exact .inr ⟨sgK_odd h, by omega, by rw [Int.tmod_eq_emod_of_nonneg (by omega)]; omega⟩
set_option maxRecDepth 100000 in
set_option maxHeartbeats 4000000 in
theorem compareBy_any (H : Option Addr) (a ca : Nat) (P : Option Addr) (b cb : Nat) (G : Option Addr) (c cc : Nat) (L : Option Addr) (n cl : Nat) (fin : Bool) (f : Nat → Option Int) (H' : Option Addr) (a' ca' : Nat) (P' : Option Addr) (b' cb' : Nat) (G' : Option Addr) (c' cc' : Nat) (L' : Option Addr) (n' cl' : Nat) (fin' : Bool) (g : Nat → Option Int) (w : World) (h : ShOk w w.heap.size H a P b G c L n fin f) (h' : ShOk w w.heap.size H' a' P' b' G' c' L' n' fin' g) :
    Calls Try.prog 142 #[shV H a ca P b cb G c cc L n cl fin, shV H' a' ca' P' b' cb' G' c' cc' L' n' cl' fin', .int .i64 1000] w fun e w' => e = .returned (.tuple #[.int .i64 (cmpF f g 1000 0).1, .int .i64 (cmpF f g 1000 0).2]) ∧ Below w.heap.size w w' := by
  obtain ⟨R, hR⟩ : ∃ R, cmpF f g 1000 0 = R := ⟨_, rfl⟩
  rw [hR]
  have HR0 : Hid (cmpF f g (1000 - 0) 0 = R) := hR
  have HA : Hid (∀ (k : Nat) (W : World), Below w.heap.size w W → k ≤ 1000 → Calls Try.prog 140 #[shV H a ca P b cb G c cc L n cl fin, .int .i64 (k : Int)] W fun e w' => e = .returned (.tuple #[.int .i64 ((f k).getD 0), .bool (f k).isSome]) ∧ Below W.heap.size W w') := fun k W hb hk => shAt_any H a ca P b cb G c cc L n cl fin f k W (h.next hb) hk
  have HB : Hid (∀ (k : Nat) (W : World), Below w.heap.size w W → k ≤ 1000 → Calls Try.prog 140 #[shV H' a' ca' P' b' cb' G' c' cc' L' n' cl' fin', .int .i64 (k : Int)] W fun e w' => e = .returned (.tuple #[.int .i64 ((g k).getD 0), .bool (g k).isSome]) ∧ Below W.heap.size W w') := fun k W hb hk => shAt_any H' a' ca' P' b' cb' G' c' cc' L' n' cl' fin' g k W (h'.next hb) hk
  clear h h' hR
  unfold shV at *
  go_enter Try.func142, Try.ntmps142
  go_wp2_with fail
  go_loopw [15] (fun t wr => ∃ k : Nat, t = .int .i64 (k : Int) ∧ k ≤ 1000 ∧ Hid (cmpF f g (1000 - k) k = R) ∧ Hid (Below w.heap.size w wr) ∧ Hid (BoxV w.heap.size [.slice H a ca, .slice P b cb, .slice G c cc, .slice L n cl, .bool fin] wr) ∧ Hid (BoxV (w.heap.size + 1) [.slice H' a' ca', .slice P' b' cb', .slice G' c' cc', .slice L' n' cl', .bool fin'] wr)) (fun t _ => 1000 - (intOf t).toNat)
  case atStart =>
    refine ⟨0, rfl, by omega, HR0.out, ext_alloc (ext1 _ _) _, (BoxV.new w #[.slice H a ca, .slice P b cb, .slice G c cc, .slice L n cl, .bool fin] _).alloc _, ?_⟩
    have h := BoxV.new (w.alloc (.cells #[.slice H a ca, .slice P b cb, .slice G c cc, .slice L n cl, .bool fin] 152)) #[.slice H' a' ca', .slice P' b' cb', .slice G' c' cc', .slice L' n' cl', .bool fin'] 152
    show BoxV _ _ _
    simpa using h
  case round =>
    obtain ⟨k, rfl, hk, HR, HE, B1, B2⟩ := hrel
    clear HR0
    by_cases hlt : k < 1000
    · have x0 := B1.out.at 0 _ rfl
      have x1 := B1.out.at 1 _ rfl
      have x2 := B1.out.at 2 _ rfl
      have x3 := B1.out.at 3 _ rfl
      have x4 := B1.out.at 4 _ rfl
      have y0 := B2.out.at 0 _ rfl
      have y1 := B2.out.at 1 _ rfl
      have y2 := B2.out.at 2 _ rfl
      have y3 := B2.out.at 3 _ rfl
      have y4 := B2.out.at 4 _ rfl
      have HF := Lib.hid (fun (W : World) (hb : Below w.heap.size w W) => HA.out k W hb hk)
      have HG := Lib.hid (fun (W : World) (hb : Below w.heap.size w W) => HB.out k W hb hk)
      have HC : Hid True := trivial
      have HLT := Lib.hid hlt
      cases hf : f k with
      | none =>
        rw [hf] at HF
        cases hg : g k with
        | none =>
          rw [hg] at HG
          rw [cmp_nn hlt hf hg] at HR
          clear hf hg
          simp only [Option.getD_none, Option.isSome_none] at HF HG
          rcases parity k with ⟨p1, p2, p3⟩ | ⟨p1, p2, p3⟩
          all_goals
            clear p1
            go_wp2_with (first | (go_at_call 140; first | ((with_reducible refine (HF.out _ HE.out).mono ?_); rintro e w2 ⟨rfl, hb2⟩; have HE2 := Lib.hid (ext_trans HE.out hb2); have B1' := Lib.hid (B1.out.next hb2); have B2' := Lib.hid (B2.out.next hb2); clear x0 x1 x2 x3 x4 y0 y1 y2 y3 y4; have y0 := B2'.out.at 0 _ rfl; have y1 := B2'.out.at 1 _ rfl; have y2 := B2'.out.at 2 _ rfl; have y3 := B2'.out.at 3 _ rfl; have y4 := B2'.out.at 4 _ rfl) | ((with_reducible refine (HG.out _ HE2.out).mono ?_); rintro e w3 ⟨rfl, hb3⟩; have HE3 := Lib.hid (ext_trans HE2.out hb3); have C1 := Lib.hid (B1'.out.next hb3); have C2 := Lib.hid (B2'.out.next hb3); clear y0 y1 y2 y3 y4)) | (go_at_call 152; (with_reducible refine (HC.out _).mono ?_); rintro e w' ⟨rfl, rfl⟩))
            go_ret2
            rw [← HR.out]
            exact ⟨rfl, HE3.out⟩
        | some u =>
          rw [hg] at HG
          rw [cmp_ns hlt hf hg] at HR
          clear hf hg
          simp only [Option.getD_none, Option.isSome_none, Option.getD_some, Option.isSome_some] at HF HG
          rcases parity k with ⟨p1, p2, p3⟩ | ⟨p1, p2, p3⟩
          all_goals
            rw [p1] at HR
            clear p1
            go_wp2_with (first | (go_at_call 140; first | ((with_reducible refine (HF.out _ HE.out).mono ?_); rintro e w2 ⟨rfl, hb2⟩; have HE2 := Lib.hid (ext_trans HE.out hb2); have B1' := Lib.hid (B1.out.next hb2); have B2' := Lib.hid (B2.out.next hb2); clear x0 x1 x2 x3 x4 y0 y1 y2 y3 y4; have y0 := B2'.out.at 0 _ rfl; have y1 := B2'.out.at 1 _ rfl; have y2 := B2'.out.at 2 _ rfl; have y3 := B2'.out.at 3 _ rfl; have y4 := B2'.out.at 4 _ rfl) | ((with_reducible refine (HG.out _ HE2.out).mono ?_); rintro e w3 ⟨rfl, hb3⟩; have HE3 := Lib.hid (ext_trans HE2.out hb3); have C1 := Lib.hid (B1'.out.next hb3); have C2 := Lib.hid (B2'.out.next hb3); clear y0 y1 y2 y3 y4)) | (go_at_call 152; (with_reducible refine (HC.out _).mono ?_); rintro e w' ⟨rfl, rfl⟩))
            go_ret2
            rw [← HR.out]
            exact ⟨rfl, HE3.out⟩
      | some t =>
        rw [hf] at HF
        cases hg : g k with
        | none =>
          rw [hg] at HG
          rw [cmp_sn hlt hf hg] at HR
          clear hf hg
          simp only [Option.getD_none, Option.isSome_none, Option.getD_some, Option.isSome_some] at HF HG
          rcases parity k with ⟨p1, p2, p3⟩ | ⟨p1, p2, p3⟩
          all_goals
            rw [p1] at HR
            clear p1
            go_wp2_with (first | (go_at_call 140; first | ((with_reducible refine (HF.out _ HE.out).mono ?_); rintro e w2 ⟨rfl, hb2⟩; have HE2 := Lib.hid (ext_trans HE.out hb2); have B1' := Lib.hid (B1.out.next hb2); have B2' := Lib.hid (B2.out.next hb2); clear x0 x1 x2 x3 x4 y0 y1 y2 y3 y4; have y0 := B2'.out.at 0 _ rfl; have y1 := B2'.out.at 1 _ rfl; have y2 := B2'.out.at 2 _ rfl; have y3 := B2'.out.at 3 _ rfl; have y4 := B2'.out.at 4 _ rfl) | ((with_reducible refine (HG.out _ HE2.out).mono ?_); rintro e w3 ⟨rfl, hb3⟩; have HE3 := Lib.hid (ext_trans HE2.out hb3); have C1 := Lib.hid (B1'.out.next hb3); have C2 := Lib.hid (B2'.out.next hb3); clear y0 y1 y2 y3 y4)) | (go_at_call 152; (with_reducible refine (HC.out _).mono ?_); rintro e w' ⟨rfl, rfl⟩))
            go_ret2
            rw [← HR.out]
            exact ⟨rfl, HE3.out⟩
        | some u =>
          rw [hg] at HG
          clear HC
          have HC0 := fun W : World => compare_any t u W
          rcases Int.lt_trichotomy t u with hc | hc | hc
          · rw [show cmp3 t u = -1 by unfold cmp3; rw [if_pos hc]] at HC0
            have HC := Lib.hid HC0
            rw [cmp_lt hlt hf hg hc] at HR
            clear hf hg HC0 hc
            simp only [Option.getD_some, Option.isSome_some] at HF HG
            rcases parity k with ⟨p1, p2, p3⟩ | ⟨p1, p2, p3⟩
            all_goals
              rw [p1] at HR
              clear p1
              go_wp2_with (first | (go_at_call 140; first | ((with_reducible refine (HF.out _ HE.out).mono ?_); rintro e w2 ⟨rfl, hb2⟩; have HE2 := Lib.hid (ext_trans HE.out hb2); have B1' := Lib.hid (B1.out.next hb2); have B2' := Lib.hid (B2.out.next hb2); clear x0 x1 x2 x3 x4 y0 y1 y2 y3 y4; have y0 := B2'.out.at 0 _ rfl; have y1 := B2'.out.at 1 _ rfl; have y2 := B2'.out.at 2 _ rfl; have y3 := B2'.out.at 3 _ rfl; have y4 := B2'.out.at 4 _ rfl) | ((with_reducible refine (HG.out _ HE2.out).mono ?_); rintro e w3 ⟨rfl, hb3⟩; have HE3 := Lib.hid (ext_trans HE2.out hb3); have C1 := Lib.hid (B1'.out.next hb3); have C2 := Lib.hid (B2'.out.next hb3); clear y0 y1 y2 y3 y4)) | (go_at_call 152; (with_reducible refine (HC.out _).mono ?_); rintro e w' ⟨rfl, rfl⟩))
              go_ret2
              rw [← HR.out]
              exact ⟨rfl, HE3.out⟩
          · rw [show cmp3 t u = 0 by unfold cmp3; rw [if_neg (by omega), if_neg (by omega)]] at HC0
            have HC := Lib.hid HC0
            rw [cmp_eq hlt hf hg hc] at HR
            clear hf hg HC0 hc
            simp only [Option.getD_some, Option.isSome_some] at HF HG
            rcases parity k with ⟨p1, p2, p3⟩ | ⟨p1, p2, p3⟩
            all_goals
              clear p1
              go_wp2_with (first | (go_at_call 140; first | ((with_reducible refine (HF.out _ HE.out).mono ?_); rintro e w2 ⟨rfl, hb2⟩; have HE2 := Lib.hid (ext_trans HE.out hb2); have B1' := Lib.hid (B1.out.next hb2); have B2' := Lib.hid (B2.out.next hb2); clear x0 x1 x2 x3 x4 y0 y1 y2 y3 y4; have y0 := B2'.out.at 0 _ rfl; have y1 := B2'.out.at 1 _ rfl; have y2 := B2'.out.at 2 _ rfl; have y3 := B2'.out.at 3 _ rfl; have y4 := B2'.out.at 4 _ rfl) | ((with_reducible refine (HG.out _ HE2.out).mono ?_); rintro e w3 ⟨rfl, hb3⟩; have HE3 := Lib.hid (ext_trans HE2.out hb3); have C1 := Lib.hid (B1'.out.next hb3); have C2 := Lib.hid (B2'.out.next hb3); clear y0 y1 y2 y3 y4)) | (go_at_call 152; (with_reducible refine (HC.out _).mono ?_); rintro e w' ⟨rfl, rfl⟩))
              go_roundw
              case rel => exact ⟨k + 1, by go_num, by have := HLT.out; omega, HR.out, HE3.out, C1.out, C2.out⟩
              case measure => have := HLT.out; simp [intOf]; omega
          · rw [show cmp3 t u = 1 by unfold cmp3; rw [if_neg (by omega), if_pos (by omega)]] at HC0
            have HC := Lib.hid HC0
            rw [cmp_gt hlt hf hg hc] at HR
            clear hf hg HC0 hc
            simp only [Option.getD_some, Option.isSome_some] at HF HG
            rcases parity k with ⟨p1, p2, p3⟩ | ⟨p1, p2, p3⟩
            all_goals
              rw [p1] at HR
              clear p1
              go_wp2_with (first | (go_at_call 140; first | ((with_reducible refine (HF.out _ HE.out).mono ?_); rintro e w2 ⟨rfl, hb2⟩; have HE2 := Lib.hid (ext_trans HE.out hb2); have B1' := Lib.hid (B1.out.next hb2); have B2' := Lib.hid (B2.out.next hb2); clear x0 x1 x2 x3 x4 y0 y1 y2 y3 y4; have y0 := B2'.out.at 0 _ rfl; have y1 := B2'.out.at 1 _ rfl; have y2 := B2'.out.at 2 _ rfl; have y3 := B2'.out.at 3 _ rfl; have y4 := B2'.out.at 4 _ rfl) | ((with_reducible refine (HG.out _ HE2.out).mono ?_); rintro e w3 ⟨rfl, hb3⟩; have HE3 := Lib.hid (ext_trans HE2.out hb3); have C1 := Lib.hid (B1'.out.next hb3); have C2 := Lib.hid (B2'.out.next hb3); clear y0 y1 y2 y3 y4)) | (go_at_call 152; (with_reducible refine (HC.out _).mono ?_); rintro e w' ⟨rfl, rfl⟩))
              go_ret2
              rw [← HR.out]
              exact ⟨rfl, HE3.out⟩
    · obtain rfl : k = 1000 := by omega
      rw [cmp_end] at HR
      clear hlt hk
      go_wp2_with fail
      go_ret2
      rw [← HR.out]
      exact ⟨rfl, HE.out⟩
end Go.Proofs.Ytgnifhegkjmgaaa
