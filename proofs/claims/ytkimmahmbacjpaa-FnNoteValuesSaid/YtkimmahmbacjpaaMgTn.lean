/- XTmNoteW XTmNoteI in one text. No condition but those that each theorem names. -/
import Derived.Test.YtkimmahmbacjpaaMgSo
import Derived.Test.YtkimmahmbacjpaaValidNotesW
/- The first terms of a note: both walks. No condition but those that each theorem names. -/
namespace Go.Proofs.Ytkimmahmbacjpaa
open Go.RowKit Go.Sort

/-- The first terms, so many at most. -/
def fstF (f : Nat → Option Int) : Nat → Nat → List Int
  | 0, _ => []
  | n + 1, k => match f k with
    | none => []
    | some t => t :: fstF f n (k + 1)
theorem fstF_none {f : Nat → Option Int} {n k : Nat} (h : f k = none) : fstF f n k = [] := by
  cases n with
  | zero => rfl
  | succ n => rw [fstF, h]
theorem fstF_some {f : Nat → Option Int} {n k : Nat} {t : Int} (h : f k = some t) (hk : k < n) : fstF f (n - k) k = t :: fstF f (n - (k + 1)) (k + 1) := by
  rw [show n - k = (n - (k + 1)) + 1 by omega, fstF, h]
theorem fstF_len (f : Nat → Option Int) : ∀ (n k : Nat), (fstF f n k).length ≤ n
  | 0, _ => by simp [fstF]
  | n + 1, k => by
    unfold fstF
    split
    · simp
    · have := fstF_len f n (k + 1)
      simp; omega
def tnC (x : Nt) (count : Int) : Int := if ntOk x = true then (if inR count 0 200 = true then ntCd x else 2) else 1
def tnX (x : Nt) (count : Int) : List Int := if tnC x count = 0 then fstF (tmS (ntSo x)) count.toNat 0 else []
theorem OutI.next {w : World} {base : Nat} {out : List Int} {v : Value} {wr w2 : World} (h : OutI w base out v wr) (hb : Below wr.heap.size wr w2) : OutI w base out v w2 :=
  ⟨own_below h.1 hb, ext_trans h.2.1 hb, Nat.le_trans h.2.2 hb.size⟩
theorem OutI.ints {w W : World} {out : List Int} {v : Value} {wr : World} (h : OutI W W.heap.size out v wr) (hb : Below w.heap.size w W) : RetInts w out 0 (.returned (.tuple #[v, .int .i64 0])) wr := by
  obtain ⟨hown, hbel, hsz⟩ := h
  obtain ⟨hn, A, c, rfl, hw⟩ := Wr.of_own hown
  exact ⟨A, c, rfl, hw.more hb.size, ext_trans hb hbel⟩
theorem RetInts.nil_ {w w' : World} {c : Int} (h : Below w.heap.size w w') : RetInts w [] c (.returned (.tuple #[.slice none 0 0, .int .i64 c])) w' := ⟨none, 0, rfl, fun h => absurd h (by simp), h⟩
set_option maxRecDepth 100000 in
set_option maxHeartbeats 2000000 in
theorem l15First_any (s : So) (g : Nat) (H P G : Option Addr) (ch cp cg n : Nat) (w : World) (hr : RdSo w w.heap.size H P G s) (ha : SoAt w g H P G ch cp cg s) (hs : TmB s) (hn : n ≤ 1000) :
    Calls Try.prog 43 #[.pointer (some ⟨g, 0, none⟩), .int .i64 (n : Int)] w (RetList w (fstF (tmS s) n 0)) := by
  obtain ⟨i0, hi, hz0, hz1, hz2⟩ := info_parts info64
  have HI := Lib.hid hi
  have hg : g < w.heap.size := World.block_lt_of_cell? w _ ha.c0
  have HT : Hid (∀ (k : Nat) (W : World), Below w.heap.size w W → k ≤ 1000 → Calls Try.prog 81 #[.pointer (some ⟨g, 0, none⟩), .int .i64 (k : Int)] W fun e w' => e = .returned (.tuple #[.int .i64 ((tmS s k).getD 0), .bool (tmS s k).isSome]) ∧ Below W.heap.size W w') := fun k W hb hk => l15Term_any s g H P G ch cp cg k W (hr.next hb) (ha.below hb hg) hs (by omega)
  obtain ⟨R, hR⟩ : ∃ R, fstF (tmS s) n 0 = R := ⟨_, rfl⟩
  rw [hR]
  have HR : Hid ([] ++ fstF (tmS s) (n - 0) 0 = R) := hR
  clear hR hr ha hs hi hg
  generalize tmS s = f at *
  go_enter Try.func43, Try.ntmps43
  go_wp2_with fail
  go_loopw [5, 6] (fun v t wr => ∃ (k : Nat) (out : List Int), t = .int .i64 (k : Int) ∧ k ≤ n ∧ Hid (out ++ fstF f (n - k) k = R) ∧ out.length = k ∧ Hid (OutI w w.heap.size out v wr)) (fun _ t _ => n - (intOf t).toNat)
  case atStart =>
    refine ⟨0, [], rfl, by omega, HR.out, rfl, ?_⟩
    have h := World.ownsRow_lit (base := w.heap.size) (e := 2) (size := 1) w #[] 0 (by simp) (by simp) rfl
    exact ⟨by simpa using h, ext1 _ _, by simp⟩
  case round =>
    obtain ⟨k, out, rfl, hk, HO, hol, HV⟩ := hrel
    clear HR
    have HOL := Lib.hid hol
    have hol2 : out.length ≤ 1000 := by omega
    clear hol
    by_cases hlt : k < n
    · cases hf : f k with
      | none =>
        have HTK : Hid (∀ W : World, Below w.heap.size w W → Calls Try.prog 81 #[.pointer (some ⟨g, 0, none⟩), .int .i64 (k : Int)] W fun e w' => e = .returned (.tuple #[.int .i64 0, .bool false]) ∧ Below W.heap.size W w') := fun W hb => by
          have h := HT.out k W hb (by omega)
          rwa [hf] at h
        have HE : Hid (R = out) := by
          have h := HO.out
          rw [fstF_none hf, List.append_nil] at h
          exact h.symm
        clear hf HO
        go_wp2_with fail
        refine (HTK.out _ HV.out.2.1).mono ?_
        rintro e w2 ⟨rfl, hb2⟩
        obtain ⟨hown, hbel, hsz⟩ := HV.out.next hb2
        obtain ⟨hn, A, c, rfl, hw⟩ := Wr.of_own hown
        have HW := Lib.hid hw
        clear hown hw hsz
        go_wp2
        go_ret
        rw [HE.out]
        exact ⟨A, c, rfl, HW.out, hbel⟩
      | some t =>
        have HTK : Hid (∀ W : World, Below w.heap.size w W → Calls Try.prog 81 #[.pointer (some ⟨g, 0, none⟩), .int .i64 (k : Int)] W fun e w' => e = .returned (.tuple #[.int .i64 t, .bool true]) ∧ Below W.heap.size W w') := fun W hb => by
          have h := HT.out k W hb (by omega)
          rwa [hf] at h
        have HN : Hid ((out ++ [t]) ++ fstF f (n - (k + 1)) (k + 1) = R) := by
          have h := HO.out
          rw [fstF_some hf hlt] at h
          unfold Hid
          rw [List.append_assoc]
          exact h
        clear hf HO
        go_wp2_with fail
        refine (HTK.out _ HV.out.2.1).mono ?_
        rintro e w2 ⟨rfl, hb2⟩
        have HV2 := Lib.hid (HV.out.next hb2)
        clear hb2
        have hown := HV2.out.1
        have hbz := HV2.out.2.2
        go_wp2_with (at_builtin; refine wpList_append_own _ rfl _ _ 32 rfl w.heap.size 2 i0 (.int .i64 0) 1 8 Try.underlying32 HI.out hz0 hz1 hz2 rfl (by decide) _ _ _ rfl (hown.alloc _) ⟨w2.heap.size, 0, none⟩ 1 1 [.int .i64 t] rfl rfl ?c1 ?c2 ?c3 ?c4 ?c5 ?_)
        case c1 => exact cell_one_new _ _ _
        case c2 => simp [Value.oneCell']
        case c3 => unfold maxLen; omega
        case c4 => omega
        case c5 => simp; omega
        intro v' w3 hown3 hgrow _
        have HV3 := Lib.hid (OutI.push HV2.out (Nat.le_refl _) _ _ hown3 hgrow)
        clear hown3 hgrow hown
        go_wp2
        go_roundw
        case rel => exact ⟨k + 1, out ++ [t], by go_num, by omega, HN.out, by simp; exact HOL.out, HV3.out⟩
        case measure => simp [intOf]; omega
    · have HE : Hid (R = out) := by
        have h := HO.out
        rw [show n - k = 0 by omega] at h
        unfold Hid
        simpa [fstF] using h.symm
      go_wp2
      go_ret
      rw [HE.out]
      obtain ⟨hown, hbel, hsz⟩ := HV.out
      obtain ⟨hn, A, c, rfl, hw⟩ := Wr.of_own hown
      exact ⟨A, c, rfl, hw, hbel⟩
set_option maxRecDepth 100000 in
set_option maxHeartbeats 2000000 in
theorem sTermsOfNote_any (x : Nt) (T : Option Addr) (c : Nat) (count : Int) (w : World) (hx : RdT w w.heap.size T c x.terms) (hf : x.fits) :
    Calls Try.prog 13 #[ntV x.name x.kind x.num x.den T x.terms.length c x.sp x.sd x.sq, .int .i64 count] w (RetInts w (tnX x count) (tnC x count)) := by
  have hbx : BoxV w.heap.size (ntC x T c) (w.alloc (.cells #[.string x.name, .int .i64 x.kind, .int .i64 x.num, .int .i64 x.den, .slice T x.terms.length c, .int .i64 x.sp, .int .i64 x.sd, .int .i64 x.sq] 36)) := BoxV.new w #[.string x.name, .int .i64 x.kind, .int .i64 x.num, .int .i64 x.den, .slice T x.terms.length c, .int .i64 x.sp, .int .i64 x.sd, .int .i64 x.sq] _
  have hat : ∀ W : World, BoxV w.heap.size (ntC x T c) W → NtAt W w.heap.size 0 x T c := fun W h => ⟨h.at 0 _ rfl, h.at 1 _ rfl, h.at 2 _ rfl, h.at 3 _ rfl, h.at 4 _ rfl, h.at 5 _ rfl, h.at 6 _ rfl, h.at 7 _ rfl⟩
  have HOK := Lib.hid (l27One_any x w.heap.size 0 T c _ (hx.next (ext1 w _)) hf (hat _ hbx))
  have HIN := Lib.hid (fun W : World => l00In_any count 0 200 W)
  have HT : Hid (tnC x count = if ntOk x = true then (if inR count 0 200 = true then ntCd x else 2) else 1) := rfl
  have HX : Hid (tnX x count = if tnC x count = 0 then fstF (tmS (ntSo x)) count.toNat 0 else []) := rfl
  cases hok : ntOk x
  · rw [hok] at HT HOK
    have h1 : tnC x count = 1 := HT.out
    rw [HX.out, h1]
    clear hok hx hbx hat HT HX h1
    unfold ntV
    go_enter Try.func13, Try.ntmps13
    go_wp2_with fail
    refine HOK.out.mono ?_
    rintro e w1 ⟨rfl, hb1⟩
    go_wp2
    go_ret2
    exact RetInts.nil_ (ext_trans (ext1 _ _) hb1)
  · rw [hok] at HT HOK
    cases hin : inR count 0 200
    · rw [hin] at HT HIN
      have h1 : tnC x count = 2 := HT.out
      rw [HX.out, h1]
      clear hok hx hbx hat HT HX h1
      unfold ntV
      go_enter Try.func13, Try.ntmps13
      go_wp2_with fail
      refine HOK.out.mono ?_
      rintro e w1 ⟨rfl, hb1⟩
      go_wp2_with (go_at_call 41; (with_reducible refine (HIN.out _).mono ?_); rintro e w' ⟨rfl, rfl⟩)
      go_ret2
      exact RetInts.nil_ (ext_trans (ext1 _ _) hb1)
    · rw [hin] at HT HIN
      obtain ⟨c1, c2⟩ := inR_true.1 hin
      obtain ⟨n, rfl⟩ : ∃ n : Nat, count = (n : Int) := ⟨count.toNat, by omega⟩
      have h1 : tnC x n = ntCd x := HT.out
      have HSO : Hid (∀ W : World, Below (w.alloc (.cells #[.string x.name, .int .i64 x.kind, .int .i64 x.num, .int .i64 x.den, .slice T x.terms.length c, .int .i64 x.sp, .int .i64 x.sd, .int .i64 x.sq] 36)).heap.size (w.alloc (.cells #[.string x.name, .int .i64 x.kind, .int .i64 x.num, .int .i64 x.den, .slice T x.terms.length c, .int .i64 x.sp, .int .i64 x.sd, .int .i64 x.sq] 36)) W → Calls Try.prog 42 #[.pointer (some ⟨w.heap.size, 0, none⟩)] W (RetSr W x)) := fun W hb => l27Source_any x w.heap.size 0 T c W ((hx.next (ext1 w _)).next hb) (hat _ (hbx.next hb)) hok
      rw [HX.out, h1]
      unfold RetSr at HSO
      have HTB := Lib.hid (fun h0 => ntSo_tmB hok h0)
      clear hok hx hbx hat HT HX h1 hin
      generalize ntSo x = so at *
      generalize ntCd x = cd at *
      by_cases h0 : cd = 0
      · subst h0
        rw [if_pos rfl, Int.toNat_natCast]
        unfold ntV
        go_enter Try.func13, Try.ntmps13
        go_wp2_with fail
        refine HOK.out.mono ?_
        rintro e w1 ⟨rfl, hb1⟩
        go_wp2_with (first | (go_at_call 41; (with_reducible refine (HIN.out _).mono ?_); rintro e w' ⟨rfl, rfl⟩) | (go_at_call 42; (with_reducible refine (HSO.out _ hb1).mono ?_); rintro e w2 ⟨H, a, ca, P, b, cb, G, c', cc, rfl, hs2, hb2⟩; obtain ⟨rfl, rfl, rfl, hrd⟩ := hs2 (by trivial)))
        have HB2 := Lib.hid (ext_trans (ext_trans (ext1 w (.cells #[.string x.name, .int .i64 x.kind, .int .i64 x.num, .int .i64 x.den, .slice T x.terms.length c, .int .i64 x.sp, .int .i64 x.sd, .int .i64 x.sq] 36)) hb1) hb2)
        refine (l15First_any so w2.heap.size H P G ca cb cc n _ (hrd.next (ext1 _ _)) (SoAt.of_box (BoxV.new w2 #[.slice H so.hd.length ca, .slice P so.pd.length cb, .slice G so.gr.length cc] _)) (HTB.out (by trivial)) (by omega)).mono ?_
        rintro e w3 ⟨A3, c3, rfl, hw3, hb3⟩
        go_wp2
        go_ret2
        exact ⟨A3, c3, rfl, hw3.more (by have := HB2.out.size; simp; omega), ext_trans (ext_alloc HB2.out _) hb3⟩
      · rw [if_neg h0]
        have e0 : (cd != 0) = true := by simpa using h0
        clear h0
        unfold ntV
        go_enter Try.func13, Try.ntmps13
        go_wp2_with fail
        refine HOK.out.mono ?_
        rintro e w1 ⟨rfl, hb1⟩
        go_wp2_with (first | (go_at_call 41; (with_reducible refine (HIN.out _).mono ?_); rintro e w' ⟨rfl, rfl⟩) | (go_at_call 42; (with_reducible refine (HSO.out _ hb1).mono ?_); rintro e w2 ⟨H, a, ca, P, b, cb, G, c', cc, rfl, hs2, hb2⟩))
        go_ret2
        exact RetInts.nil_ (ext_alloc (ext_trans (ext_trans (ext1 _ _) hb1) hb2) _)
end Go.Proofs.Ytkimmahmbacjpaa

/- The first terms of a note: the program's walk. No condition but those that each theorem names. -/
namespace Go.Proofs.Ytkimmahmbacjpaa
open Go.RowKit Go.Sort

set_option maxRecDepth 100000 in
set_option maxHeartbeats 4000000 in
theorem iTermsOfNote_any (x : Nt) (T : Option Addr) (c : Nat) (count : Int) (w : World) (hx : RdT w w.heap.size T c x.terms) (hf : x.fits) :
    Calls Try.prog 12 #[ntV x.name x.kind x.num x.den T x.terms.length c x.sp x.sd x.sq, .int .i64 count] w (RetInts w (tnX x count) (tnC x count)) := by
  obtain ⟨i0, hi, hz0, hz1, hz2⟩ := info_parts info64
  have HI := Lib.hid hi
  have HOK : Hid (∀ W : World, Below w.heap.size w W → Calls Try.prog 36 #[ntV x.name x.kind x.num x.den T x.terms.length c x.sp x.sd x.sq] W fun e w' => e = .returned (.bool (ntOk x)) ∧ Below W.heap.size W w') := fun W hb => isNote_any x T c W (hx.next hb) hf
  have HIN := Lib.hid (fun W : World => within_any count 0 200 W)
  have HT : Hid (tnC x count = if ntOk x = true then (if inR count 0 200 = true then ntCd x else 2) else 1) := rfl
  have HX : Hid (tnX x count = if tnC x count = 0 then fstF (tmS (ntSo x)) count.toNat 0 else []) := rfl
  cases hok : ntOk x
  · rw [hok] at HT HOK
    have h1 : tnC x count = 1 := HT.out
    rw [HX.out, h1]
    clear hok hx hf HT HX h1 hi
    unfold ntV at *
    go_enter Try.func12, Try.ntmps12
    go_wp2_with fail
    refine (HOK.out _ (ext1 _ _)).mono ?_
    rintro e w1 ⟨rfl, hb1⟩
    have HB1 := Lib.hid (ext_trans (ext1 w (.cells #[.string x.name, .int .i64 x.kind, .int .i64 x.num, .int .i64 x.den, .slice T x.terms.length c, .int .i64 x.sp, .int .i64 x.sd, .int .i64 x.sq] 36)) hb1)
    go_wp2
    go_ret2
    exact RetInts.nil_ HB1.out
  · rw [hok] at HT HOK
    cases hin : inR count 0 200
    · rw [hin] at HT HIN
      have h1 : tnC x count = 2 := HT.out
      rw [HX.out, h1]
      clear hok hx hf HT HX h1 hi
      unfold ntV at *
      go_enter Try.func12, Try.ntmps12
      go_wp2_with fail
      refine (HOK.out _ (ext1 _ _)).mono ?_
      rintro e w1 ⟨rfl, hb1⟩
      have HB1 := Lib.hid (ext_trans (ext1 w (.cells #[.string x.name, .int .i64 x.kind, .int .i64 x.num, .int .i64 x.den, .slice T x.terms.length c, .int .i64 x.sp, .int .i64 x.sd, .int .i64 x.sq] 36)) hb1)
      go_wp2_with (go_at_call 37; (with_reducible refine (HIN.out _).mono ?_); rintro e w' ⟨rfl, rfl⟩)
      go_ret2
      exact RetInts.nil_ HB1.out
    · rw [hin] at HT HIN
      obtain ⟨c1, c2⟩ := inR_true.1 hin
      obtain ⟨n, rfl⟩ : ∃ n : Nat, count = (n : Int) := ⟨count.toNat, by omega⟩
      have h1 : tnC x n = ntCd x := HT.out
      have HSO : Hid (∀ W : World, Below w.heap.size w W → Calls Try.prog 38 #[ntV x.name x.kind x.num x.den T x.terms.length c x.sp x.sd x.sq] W (RetSh W x)) := fun W hb => iTermsOf_any x T c W (hx.next hb) hok
      rw [HX.out, h1]
      unfold RetSh at HSO
      have hn200 : n ≤ 200 := by omega
      clear hok hx hf HT HX h1 hin hi c1 c2
      generalize tmS (ntSo x) = f at *
      generalize ntCd x = cd at *
      by_cases h0 : cd = 0
      · subst h0
        rw [if_pos rfl, Int.toNat_natCast]
        obtain ⟨R, hR⟩ : ∃ R, fstF f n 0 = R := ⟨_, rfl⟩
        rw [hR]
        have HR : Hid ([] ++ fstF f (n - 0) 0 = R) := hR
        clear hR
        unfold ntV at *
        go_enter Try.func12, Try.ntmps12
        go_wp2_with fail
        refine (HOK.out _ (ext1 _ _)).mono ?_
        rintro e w1 ⟨rfl, hb1⟩
        have HB1 := Lib.hid (ext_trans (ext1 w (.cells #[.string x.name, .int .i64 x.kind, .int .i64 x.num, .int .i64 x.den, .slice T x.terms.length c, .int .i64 x.sp, .int .i64 x.sd, .int .i64 x.sq] 36)) hb1)
        have HBX : Hid (BoxV w.heap.size (ntC x T c) w1) := (BoxV.new w #[.string x.name, .int .i64 x.kind, .int .i64 x.num, .int .i64 x.den, .slice T x.terms.length c, .int .i64 x.sp, .int .i64 x.sd, .int .i64 x.sq] 36).next hb1
        have x0 := HBX.out.at 0 _ rfl
        have x1 := HBX.out.at 1 _ rfl
        have x2 := HBX.out.at 2 _ rfl
        have x3 := HBX.out.at 3 _ rfl
        have x4 := HBX.out.at 4 _ rfl
        have x5 := HBX.out.at 5 _ rfl
        have x6 := HBX.out.at 6 _ rfl
        have x7 := HBX.out.at 7 _ rfl
        go_wp2_with (first | (go_at_call 37; (with_reducible refine (HIN.out _).mono ?_); rintro e w' ⟨rfl, rfl⟩) | (go_at_call 38; (with_reducible refine (HSO.out _ HB1.out).mono ?_); rintro e w2 ⟨H, a, ca, P, b, cb, G, c', cc, L, nl, cl, fin, rfl, hs2, hb2⟩))
        have HB2 := Lib.hid (ext_alloc (ext_trans HB1.out hb2) (.cells #[.slice H a ca, .slice P b cb, .slice G c' cc, .slice L nl cl, .bool fin] 74))
        have HS2 : Hid (ShOk (w2.alloc (.cells #[.slice H a ca, .slice P b cb, .slice G c' cc, .slice L nl cl, .bool fin] 74)) (w2.alloc (.cells #[.slice H a ca, .slice P b cb, .slice G c' cc, .slice L nl cl, .bool fin] 74)).heap.size H a P b G c' L nl fin f) := (hs2 (by trivial)).next (ext1 _ _)
        have HG := Lib.hid (BoxV.new w2 #[.slice H a ca, .slice P b cb, .slice G c' cc, .slice L nl cl, .bool fin] 74)
        clear x0 x1 x2 x3 x4 x5 x6 x7
        clear hs2 hb1 hb2 HBX HB1 HSO HIN HOK
        generalize w2.alloc (.cells #[.slice H a ca, .slice P b cb, .slice G c' cc, .slice L nl cl, .bool fin] 74) = W at *
        generalize w2.heap.size = g at *
        have HA : Hid (∀ (k : Nat) (V : World), Below W.heap.size W V → k ≤ 1000 → Calls Try.prog 39 #[shV H a ca P b cb G c' cc L nl cl fin, .int .i64 (k : Int)] V fun e w' => e = .returned (.tuple #[.int .i64 ((f k).getD 0), .bool (f k).isSome]) ∧ Below V.heap.size V w') := fun k V hb hk => shAt_any H a ca P b cb G c' cc L nl cl fin f k V (HS2.out.next hb) hk
        unfold shV at *
        go_loopw [8, 29] (fun v t wr => ∃ (k : Nat) (out : List Int), t = .int .i64 (k : Int) ∧ k ≤ n ∧ Hid (out ++ fstF f (n - k) k = R) ∧ out.length = k ∧ Hid (OutI W W.heap.size out v wr)) (fun _ t _ => n - (intOf t).toNat)
        case atStart => exact ⟨0, [], rfl, by omega, HR.out, rfl, own_nil, Below.refl _ _, Nat.le_refl _⟩
        case round =>
          obtain ⟨k, out, rfl, hk, HO, hol, HV⟩ := hrel
          clear HR
          have HOL := Lib.hid hol
          have hol2 : out.length ≤ 1000 := by omega
          clear hol
          by_cases hlt : k < n
          · have y0 := (HG.out.under HV.out.2.1 HG.out.lt).at 0 _ rfl
            have y1 := (HG.out.under HV.out.2.1 HG.out.lt).at 1 _ rfl
            have y2 := (HG.out.under HV.out.2.1 HG.out.lt).at 2 _ rfl
            have y3 := (HG.out.under HV.out.2.1 HG.out.lt).at 3 _ rfl
            have y4 := (HG.out.under HV.out.2.1 HG.out.lt).at 4 _ rfl
            cases hf : f k with
            | none =>
              have HTK : Hid (∀ V : World, Below W.heap.size W V → Calls Try.prog 39 #[.agg #[.slice H a ca, .slice P b cb, .slice G c' cc, .slice L nl cl, .bool fin], .int .i64 (k : Int)] V fun e w' => e = .returned (.tuple #[.int .i64 0, .bool false]) ∧ Below V.heap.size V w') := fun V hb => by
                have h := HA.out k V hb (by omega)
                rwa [hf] at h
              have HE : Hid (R = out) := by
                have h := HO.out
                rw [fstF_none hf, List.append_nil] at h
                exact h.symm
              clear hf HO
              go_wp2_with fail
              refine (HTK.out _ HV.out.2.1).mono ?_
              rintro e w3 ⟨rfl, hb3⟩
              have HV3 := Lib.hid (HV.out.next hb3)
              clear hb3 y0 y1 y2 y3 y4
              go_wp2
              go_ret2
              rw [HE.out]
              exact HV3.out.ints HB2.out
            | some t =>
              have HTK : Hid (∀ V : World, Below W.heap.size W V → Calls Try.prog 39 #[.agg #[.slice H a ca, .slice P b cb, .slice G c' cc, .slice L nl cl, .bool fin], .int .i64 (k : Int)] V fun e w' => e = .returned (.tuple #[.int .i64 t, .bool true]) ∧ Below V.heap.size V w') := fun V hb => by
                have h := HA.out k V hb (by omega)
                rwa [hf] at h
              have HN : Hid ((out ++ [t]) ++ fstF f (n - (k + 1)) (k + 1) = R) := by
                have h := HO.out
                rw [fstF_some hf hlt] at h
                unfold Hid
                rw [List.append_assoc]
                exact h
              clear hf HO
              go_wp2_with fail
              refine (HTK.out _ HV.out.2.1).mono ?_
              rintro e w3 ⟨rfl, hb3⟩
              have HV2 := Lib.hid (HV.out.next hb3)
              clear hb3 y0 y1 y2 y3 y4
              have hown := HV2.out.1
              have hbz := HV2.out.2.2
              go_wp2_with (at_builtin; refine wpList_append_own _ rfl _ _ 32 rfl W.heap.size 2 i0 (.int .i64 0) 1 8 Try.underlying32 HI.out hz0 hz1 hz2 rfl (by decide) _ _ _ rfl (hown.alloc _) ⟨w3.heap.size, 0, none⟩ 1 1 [.int .i64 t] rfl rfl ?c1 ?c2 ?c3 ?c4 ?c5 ?_)
              case c1 => exact cell_one_new _ _ _
              case c2 => simp [Value.oneCell']
              case c3 => unfold maxLen; omega
              case c4 => omega
              case c5 => simp; omega
              intro v' w4 hown3 hgrow _
              have HV3 := Lib.hid (OutI.push HV2.out (Nat.le_refl _) _ _ hown3 hgrow)
              clear hown3 hgrow hown
              go_wp2
              go_roundw
              case rel => exact ⟨k + 1, out ++ [t], by go_num, by omega, HN.out, by simp; exact HOL.out, HV3.out⟩
              case measure => simp [intOf]; omega
          · have HE : Hid (R = out) := by
              have h := HO.out
              rw [show n - k = 0 by omega] at h
              unfold Hid
              simpa [fstF] using h.symm
            go_wp2
            go_ret2
            rw [HE.out]
            exact HV.out.ints HB2.out
      · rw [if_neg h0]
        have e0 : (cd != 0) = true := by simpa using h0
        clear h0
        unfold ntV at *
        go_enter Try.func12, Try.ntmps12
        go_wp2_with fail
        refine (HOK.out _ (ext1 _ _)).mono ?_
        rintro e w1 ⟨rfl, hb1⟩
        have HB1 := Lib.hid (ext_trans (ext1 w (.cells #[.string x.name, .int .i64 x.kind, .int .i64 x.num, .int .i64 x.den, .slice T x.terms.length c, .int .i64 x.sp, .int .i64 x.sd, .int .i64 x.sq] 36)) hb1)
        have HBX : Hid (BoxV w.heap.size (ntC x T c) w1) := (BoxV.new w #[.string x.name, .int .i64 x.kind, .int .i64 x.num, .int .i64 x.den, .slice T x.terms.length c, .int .i64 x.sp, .int .i64 x.sd, .int .i64 x.sq] 36).next hb1
        have x0 := HBX.out.at 0 _ rfl
        have x1 := HBX.out.at 1 _ rfl
        have x2 := HBX.out.at 2 _ rfl
        have x3 := HBX.out.at 3 _ rfl
        have x4 := HBX.out.at 4 _ rfl
        have x5 := HBX.out.at 5 _ rfl
        have x6 := HBX.out.at 6 _ rfl
        have x7 := HBX.out.at 7 _ rfl
        go_wp2_with (first | (go_at_call 37; (with_reducible refine (HIN.out _).mono ?_); rintro e w' ⟨rfl, rfl⟩) | (go_at_call 38; (with_reducible refine (HSO.out _ HB1.out).mono ?_); rintro e w2 ⟨H, a, ca, P, b, cb, G, c', cc, L, nl, cl, fin, rfl, hs2, hb2⟩))
        go_ret2
        exact RetInts.nil_ (ext_alloc (ext_trans HB1.out hb2) _)
end Go.Proofs.Ytkimmahmbacjpaa
