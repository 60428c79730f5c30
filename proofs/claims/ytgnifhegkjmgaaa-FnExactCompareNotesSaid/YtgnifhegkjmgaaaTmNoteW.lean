/- The first terms of a note: both walks. No condition but those that each theorem names. -/
import Derived.Test.YtgnifhegkjmgaaaSoOfS
import Derived.Test.YtgnifhegkjmgaaaValidNotesW
namespace Go.Proofs.Ytgnifhegkjmgaaa
open Go.RowKit Go.Sort

/-- The first terms, so many at most. -/
def fstF (f : Nat → Option Int) : Nat → Nat → List Int
  | 0, _ => []
  | n + 1, k => match f k with
    | none => []
    | some t => t :: fstF f n (k + 1)
theorem fstF_none {f : Nat → Option Int} {n k : Nat} (h : f k = none) : fstF f n k = [] := by
  cases n with
  | zero => rfl
  | succ n => rw [fstF, h]
theorem fstF_some {f : Nat → Option Int} {n k : Nat} {t : Int} (h : f k = some t) (hk : k < n) : fstF f (n - k) k = t :: fstF f (n - (k + 1)) (k + 1) := by
  rw [show n - k = (n - (k + 1)) + 1 by omega, fstF, h]
theorem fstF_len (f : Nat → Option Int) : ∀ (n k : Nat), (fstF f n k).length ≤ n
  | 0, _ => by simp [fstF]
  | n + 1, k => by
    unfold fstF
    split
    · simp
    · have := fstF_len f n (k + 1)
      simp; omega
def tnC (x : Nt) (count : Int) : Int := if ntOk x = true then (if inR count 0 200 = true then ntCd x else 2) else 1
def tnX (x : Nt) (count : Int) : List Int := if tnC x count = 0 then fstF (tmS (ntSo x)) count.toNat 0 else []
theorem OutI.next {w : World} {base : Nat} {out : List Int} {v : Value} {wr w2 : World} (h : OutI w base out v wr) (hb : Below wr.heap.size wr w2) : OutI w base out v w2 :=
  ⟨own_below h.1 hb, ext_trans h.2.1 hb, Nat.le_trans h.2.2 hb.size⟩
theorem OutI.ints {w W : World} {out : List Int} {v : Value} {wr : World} (h : OutI W W.heap.size out v wr) (hb : Below w.heap.size w W) : RetInts w out 0 (.returned (.tuple #[v, .int .i64 0])) wr := by
  obtain ⟨hown, hbel, hsz⟩ := h
  obtain ⟨hn, A, c, rfl, hw⟩ := Wr.of_own hown
  exact ⟨A, c, rfl, hw.more hb.size, ext_trans hb hbel⟩
theorem RetInts.nil_ {w w' : World} {c : Int} (h : Below w.heap.size w w') : RetInts w [] c (.returned (.tuple #[.slice none 0 0, .int .i64 c])) w' := ⟨none, 0, rfl, fun h => absurd h (by simp), h⟩
set_option maxRecDepth 100000 in
set_option maxHeartbeats 2000000 in
theorem l15First_any (s : So) (g : Nat) (H P G : Option Addr) (ch cp cg n : Nat) (w : World) (hr : RdSo w w.heap.size H P G s) (ha : SoAt w g H P G ch cp cg s) (hs : TmB s) (hn : n ≤ 1000) :
    Calls Try.prog 135 #[.pointer (some ⟨g, 0, none⟩), .int .i64 (n : Int)] w (RetList w (fstF (tmS s) n 0)) := by
  obtain ⟨i0, hi, hz0, hz1, hz2⟩ := info_parts info64
  have HI := Lib.hid hi
  have hg : g < w.heap.size := World.block_lt_of_cell? w _ ha.c0
  have HT : Hid (∀ (k : Nat) (W : World), Below w.heap.size w W → k ≤ 1000 → Calls Try.prog 162 #[.pointer (some ⟨g, 0, none⟩), .int .i64 (k : Int)] W fun e w' => e = .returned (.tuple #[.int .i64 ((tmS s k).getD 0), .bool (tmS s k).isSome]) ∧ Below W.heap.size W w') := fun k W hb hk => l15Term_any s g H P G ch cp cg k W (hr.next hb) (ha.below hb hg) hs (by omega)
  obtain ⟨R, hR⟩ : ∃ R, fstF (tmS s) n 0 = R := ⟨_, rfl⟩
  rw [hR]
  have HR : Hid ([] ++ fstF (tmS s) (n - 0) 0 = R) := hR
  clear hR hr ha hs hi hg
  generalize tmS s = f at *
  go_enter Try.func135, Try.ntmps135
  go_wp2_with fail
  go_loopw [5, 6] (fun v t wr => ∃ (k : Nat) (out : List Int), t = .int .i64 (k : Int) ∧ k ≤ n ∧ Hid (out ++ fstF f (n - k) k = R) ∧ out.length = k ∧ Hid (OutI w w.heap.size out v wr)) (fun _ t _ => n - (intOf t).toNat)
  case atStart =>
    refine ⟨0, [], rfl, by omega, HR.out, rfl, ?_⟩
    have h := World.ownsRow_lit (base := w.heap.size) (e := 2) (size := 1) w #[] 0 (by simp) (by simp) rfl
    exact ⟨by simpa using h, ext1 _ _, by simp⟩
  case round =>
    obtain ⟨k, out, rfl, hk, HO, hol, HV⟩ := hrel
    clear HR
    have HOL := Lib.hid hol
    have hol2 : out.length ≤ 1000 := by omega
    clear hol
    by_cases hlt : k < n
    · cases hf : f k with
      | none =>
        have HTK : Hid (∀ W : World, Below w.heap.size w W → Calls Try.prog 162 #[.pointer (some ⟨g, 0, none⟩), .int .i64 (k : Int)] W fun e w' => e = .returned (.tuple #[.int .i64 0, .bool false]) ∧ Below W.heap.size W w') := fun W hb => by
          have h := HT.out k W hb (by omega)
          rwa [hf] at h
        have HE : Hid (R = out) := by
          have h := HO.out
          rw [fstF_none hf, List.append_nil] at h
          exact h.symm
        clear hf HO
        go_wp2_with fail
        refine (HTK.out _ HV.out.2.1).mono ?_
        rintro e w2 ⟨rfl, hb2⟩
        obtain ⟨hown, hbel, hsz⟩ := HV.out.next hb2
        obtain ⟨hn, A, c, rfl, hw⟩ := Wr.of_own hown
        have HW := Lib.hid hw
        clear hown hw hsz
        go_wp2
        go_ret
        rw [HE.out]
        exact ⟨A, c, rfl, HW.out, hbel⟩
      | some t =>
        have HTK : Hid (∀ W : World, Below w.heap.size w W → Calls Try.prog 162 #[.pointer (some ⟨g, 0, none⟩), .int .i64 (k : Int)] W fun e w' => e = .returned (.tuple #[.int .i64 t, .bool true]) ∧ Below W.heap.size W w') := fun W hb => by
          have h := HT.out k W hb (by omega)
          rwa [hf] at h
        have HN : Hid ((out ++ [t]) ++ fstF f (n - (k + 1)) (k + 1) = R) := by
          have h := HO.out
          rw [fstF_some hf hlt] at h
          unfold Hid
          rw [List.append_assoc]
          exact h
        clear hf HO
        go_wp2_with fail
        refine (HTK.out _ HV.out.2.1).mono ?_
        rintro e w2 ⟨rfl, hb2⟩
        have HV2 := Lib.hid (HV.out.next hb2)
        clear hb2
        have hown := HV2.out.1
        have hbz := HV2.out.2.2
        go_wp2_with (at_builtin; refine wpList_append_own _ rfl _ _ 30 rfl w.heap.size 2 i0 (.int .i64 0) 1 8 Try.underlying30 HI.out hz0 hz1 hz2 rfl (by decide) _ _ _ rfl (hown.alloc _) ⟨w2.heap.size, 0, none⟩ 1 1 [.int .i64 t] rfl rfl ?c1 ?c2 ?c3 ?c4 ?c5 ?_)
        case c1 => exact cell_one_new _ _ _
        case c2 => simp [Value.oneCell']
        case c3 => unfold maxLen; omega
        case c4 => omega
        case c5 => simp; omega
        intro v' w3 hown3 hgrow _
        have HV3 := Lib.hid (OutI.push HV2.out (Nat.le_refl _) _ _ hown3 hgrow)
        clear hown3 hgrow hown
        go_wp2
        go_roundw
        case rel => exact ⟨k + 1, out ++ [t], by go_num, by omega, HN.out, by simp; exact HOL.out, HV3.out⟩
        case measure => simp [intOf]; omega
    · have HE : Hid (R = out) := by
        have h := HO.out
        rw [show n - k = 0 by omega] at h
        unfold Hid
        simpa [fstF] using h.symm
      go_wp2
      go_ret
      rw [HE.out]
      obtain ⟨hown, hbel, hsz⟩ := HV.out
      obtain ⟨hn, A, c, rfl, hw⟩ := Wr.of_own hown
      exact ⟨A, c, rfl, hw, hbel⟩
set_option maxRecDepth 100000 in
set_option maxHeartbeats 2000000 in
theorem sTermsOfNote_any (x : Nt) (T : Option Addr) (c : Nat) (count : Int) (w : World) (hx : RdT w w.heap.size T c x.terms) (hf : x.fits) :
    Calls Try.prog 65 #[ntV x.name x.kind x.num x.den T x.terms.length c x.sp x.sd x.sq, .int .i64 count] w (RetInts w (tnX x count) (tnC x count)) := by
  have hbx : BoxV w.heap.size (ntC x T c) (w.alloc (.cells #[.string x.name, .int .i64 x.kind, .int .i64 x.num, .int .i64 x.den, .slice T x.terms.length c, .int .i64 x.sp, .int .i64 x.sd, .int .i64 x.sq] 73)) := BoxV.new w #[.string x.name, .int .i64 x.kind, .int .i64 x.num, .int .i64 x.den, .slice T x.terms.length c, .int .i64 x.sp, .int .i64 x.sd, .int .i64 x.sq] _
  have hat : ∀ W : World, BoxV w.heap.size (ntC x T c) W → NtAt W w.heap.size 0 x T c := fun W h => ⟨h.at 0 _ rfl, h.at 1 _ rfl, h.at 2 _ rfl, h.at 3 _ rfl, h.at 4 _ rfl, h.at 5 _ rfl, h.at 6 _ rfl, h.at 7 _ rfl⟩
  have HOK := Lib.hid (l27One_any x w.heap.size 0 T c _ (hx.next (ext1 w _)) hf (hat _ hbx))
  have HIN := Lib.hid (fun W : World => l00In_any count 0 200 W)
  have HT : Hid (tnC x count = if ntOk x = true then (if inR count 0 200 = true then ntCd x else 2) else 1) := rfl
  have HX : Hid (tnX x count = if tnC x count = 0 then fstF (tmS (ntSo x)) count.toNat 0 else []) := rfl
  cases hok : ntOk x
  · rw [hok] at HT HOK
    have h1 : tnC x count = 1 := HT.out
    rw [HX.out, h1]
    clear hok hx hbx hat HT HX h1
    unfold ntV
    go_enter Try.func65, Try.ntmps65
    go_wp2_with fail
    refine HOK.out.mono ?_
    rintro e w1 ⟨rfl, hb1⟩
    go_wp2
    go_ret2
    exact RetInts.nil_ (ext_trans (ext1 _ _) hb1)
  · rw [hok] at HT HOK
    cases hin : inR count 0 200
    · rw [hin] at HT HIN
      have h1 : tnC x count = 2 := HT.out
      rw [HX.out, h1]
      clear hok hx hbx hat HT HX h1
      unfold ntV
      go_enter Try.func65, Try.ntmps65
      go_wp2_with fail
      refine HOK.out.mono ?_
      rintro e w1 ⟨rfl, hb1⟩
      go_wp2_with (go_at_call 92; (with_reducible refine (HIN.out _).mono ?_); rintro e w' ⟨rfl, rfl⟩)
      go_ret2
      exact RetInts.nil_ (ext_trans (ext1 _ _) hb1)
    · rw [hin] at HT HIN
      obtain ⟨c1, c2⟩ := inR_true.1 hin
      obtain ⟨n, rfl⟩ : ∃ n : Nat, count = (n : Int) := ⟨count.toNat, by omega⟩
      have h1 : tnC x n = ntCd x := HT.out
      have HSO : Hid (∀ W : World, Below (w.alloc (.cells #[.string x.name, .int .i64 x.kind, .int .i64 x.num, .int .i64 x.den, .slice T x.terms.length c, .int .i64 x.sp, .int .i64 x.sd, .int .i64 x.sq] 73)).heap.size (w.alloc (.cells #[.string x.name, .int .i64 x.kind, .int .i64 x.num, .int .i64 x.den, .slice T x.terms.length c, .int .i64 x.sp, .int .i64 x.sd, .int .i64 x.sq] 73)) W → Calls Try.prog 134 #[.pointer (some ⟨w.heap.size, 0, none⟩)] W (RetSr W x)) := fun W hb => l27Source_any x w.heap.size 0 T c W ((hx.next (ext1 w _)).next hb) (hat _ (hbx.next hb)) hok
      rw [HX.out, h1]
      unfold RetSr at HSO
      have HTB := Lib.hid (fun h0 => ntSo_tmB hok h0)
      clear hok hx hbx hat HT HX h1 hin
      generalize ntSo x = so at *
      generalize ntCd x = cd at *
      by_cases h0 : cd = 0
      · subst h0
        rw [if_pos rfl, Int.toNat_natCast]
        unfold ntV
        go_enter Try.func65, Try.ntmps65
        go_wp2_with fail
        refine HOK.out.mono ?_
        rintro e w1 ⟨rfl, hb1⟩
        go_wp2_with (first | (go_at_call 92; (with_reducible refine (HIN.out _).mono ?_); rintro e w' ⟨rfl, rfl⟩) | (go_at_call 134; (with_reducible refine (HSO.out _ hb1).mono ?_); rintro e w2 ⟨H, a, ca, P, b, cb, G, c', cc, rfl, hs2, hb2⟩; obtain ⟨rfl, rfl, rfl, hrd⟩ := hs2 (by trivial)))
        have HB2 := Lib.hid (ext_trans (ext_trans (ext1 w (.cells #[.string x.name, .int .i64 x.kind, .int .i64 x.num, .int .i64 x.den, .slice T x.terms.length c, .int .i64 x.sp, .int .i64 x.sd, .int .i64 x.sq] 73)) hb1) hb2)
        refine (l15First_any so w2.heap.size H P G ca cb cc n _ (hrd.next (ext1 _ _)) (SoAt.of_box (BoxV.new w2 #[.slice H so.hd.length ca, .slice P so.pd.length cb, .slice G so.gr.length cc] _)) (HTB.out (by trivial)) (by omega)).mono ?_
        rintro e w3 ⟨A3, c3, rfl, hw3, hb3⟩
        go_wp2
        go_ret2
        exact ⟨A3, c3, rfl, hw3.more (by have := HB2.out.size; simp; omega), ext_trans (ext_alloc HB2.out _) hb3⟩
      · rw [if_neg h0]
        have e0 : (cd != 0) = true := by simpa using h0
        clear h0
        unfold ntV
        go_enter Try.func65, Try.ntmps65
        go_wp2_with fail
        refine HOK.out.mono ?_
        rintro e w1 ⟨rfl, hb1⟩
        go_wp2_with (first | (go_at_call 92; (with_reducible refine (HIN.out _).mono ?_); rintro e w' ⟨rfl, rfl⟩) | (go_at_call 134; (with_reducible refine (HSO.out _ hb1).mono ?_); rintro e w2 ⟨H, a, ca, P, b, cb, G, c', cc, rfl, hs2, hb2⟩))
        go_ret2
        exact RetInts.nil_ (ext_alloc (ext_trans (ext_trans (ext1 _ _) hb1) hb2) _)
end Go.Proofs.Ytgnifhegkjmgaaa
