/- Parts of the proof, merged: DrawAnW CloneW OwnNtW OwnNtS. No condition but those that each theorem names. -/
import Derived.Test.YtpnabggpdgjbmaaGreatDoorMgAP
import Derived.Test.YtpnabggpdgjbmaaGreatDoorMgAM
import Derived.Test.YtpnabggpdgjbmaaGreatDoorMgAC
import Derived.Test.YtpnabggpdgjbmaaGreatDoorMgAE
namespace Go.Proofs.YtpnabggpdgjbmaaGreatDoor
open Go.RowKit Go.Sort
/-- A list of notes that the law holds. -/
structure NkL (A : Option Addr) (c : Nat) (xs : List Nt) (W : World) : Prop where
  rd : RdNt W W.heap.size A xs
  cap : xs.length ≤ c ∧ c ≤ maxLen
  pos : ∃ b off, A = some ⟨b, off, none⟩
  len : xs.length ≤ 41
  sm : ∀ x ∈ xs, ntSm x
theorem NkL.next {A : Option Addr} {c : Nat} {xs : List Nt} {W W' : World} (h : NkL A c xs W) (hb : Below W.heap.size W W') : NkL A c xs W' := ⟨h.rd.next hb, h.cap, h.pos, h.len, h.sm⟩
theorem own_capN {W : World} {base g n cap m : Nat} {e : TypeId} {size : Nat} {xs : List Value} (h : W.ownsRow base e size (.slice (some ⟨g, 0, none⟩) n cap) m xs) : n ≤ cap ∧ cap ≤ maxLen := by
  rcases h.2 with ⟨h1, _⟩ | ⟨_, _, _, h1, _, _, h2, h3, _⟩
  · cases h1
  · injection h1 with _ h4 h5
    subst h4 h5
    exact ⟨h2, h3⟩
theorem OutNt.nk {w W : World} {base : Nat} {rs : List NtR} {own : Nat → Nat} {h n c : Nat} (t : OutNt w base rs own (.slice (some ⟨h, 0, none⟩) n c) W) (hl : rs.length ≤ 41) (hs : ∀ r ∈ rs, ntSm r.x) : NkL (some ⟨h, 0, none⟩) c (rs.map NtR.x) W := by
  have hn := own_n t.row
  subst hn
  obtain ⟨A, c', e, hw⟩ := t.wr
  injection e with e1 e2 e3
  subst e1
  have hc := own_capN t.row
  refine ⟨hw.rd, by simpa using hc, ⟨_, _, rfl⟩, by simpa using hl, fun x hx => ?_⟩
  obtain ⟨r, hr, rfl⟩ := List.mem_map.1 hx
  exact hs r hr
theorem wr_farLow {α : Type} {enc : α → Value} {A : Option Addr} {xs : List α} {B i j : Nat} {u : Value} {W : World} (h : Wr enc W B A xs) (hi : i < B) : Wr enc (W.setCell ⟨i, j, none⟩ u) B A xs := fun hn => by
  obtain ⟨b, off, e, h1, h2, hc, hf⟩ := h hn
  exact ⟨b, off, e, h1, by simpa using h2, fun m y hy => (World.cell?_setCell_other _ _ _ _ (by intro e; injection e; omega)).trans (hc m y hy), fun m => (World.frozen?_setCell _ _ _ _).trans (hf m)⟩
/-- Behind the stores of a note into box i. -/
theorem wr_far8 {A : Option Addr} {xs : List Int} {B i : Nat} {W : World} (h : Wr (Value.int .i64) W B A xs) (hi : i < B) (a0 a1 a2 a3 a4 a5 a6 a7 : Value) : Wr (Value.int .i64) ((((((((W.setCell ⟨i, 0, none⟩ a0).setCell ⟨i, 1, none⟩ a1).setCell ⟨i, 2, none⟩ a2).setCell ⟨i, 3, none⟩ a3).setCell ⟨i, 4, none⟩ a4).setCell ⟨i, 5, none⟩ a5).setCell ⟨i, 6, none⟩ a6).setCell ⟨i, 7, none⟩ a7) B A xs := by
  iterate 8 (refine wr_farLow ?_ hi)
  exact h
/-- What is drawn for AddNote. -/
def RetDa (w : World) (e : Ending) (w' : World) : Prop := ∃ (A : Option Addr) (c : Nat) (xs : List Nt) (x : Nt) (T : Option Addr) (ct : Nat), e = .returned (.tuple #[.slice A xs.length c, ntV x.name x.kind x.num x.den T x.terms.length ct x.sp x.sd x.sq]) ∧
  NkL A c xs w' ∧ ntSm x ∧ RdT w' w'.heap.size T ct x.terms ∧ Below w.heap.size w w'
/-- What is drawn for DropNote. -/
def RetDd (w : World) (e : Ending) (w' : World) : Prop := ∃ (A : Option Addr) (c : Nat) (xs : List Nt) (s : ByteArray), e = .returned (.tuple #[.slice A xs.length c, .string s]) ∧ NkL A c xs w' ∧ s.size ≤ 10 ∧ Below w.heap.size w w'
/-- A list that is drawn. -/
def RetDl (w : World) (e : Ending) (w' : World) : Prop := ∃ (A : Option Addr) (c : Nat) (xs : List Nt), e = .returned (.slice A xs.length c) ∧ NkL A c xs w' ∧ Below w.heap.size w w'
theorem drawNotesText_any (A : Option Addr) (n c : Nat) (w : World) (h : Bytes w A n) :
    Calls Tryz.prog 13 #[.slice A n c] w (RetDl w) := by
  have H := Lib.hid h
  clear h
  go_enter Tryz.func13, Tryz.ntmps13
  go_wp2_with fail
  refine (l00From_bytes A n c _ H.out).mono ?_
  rintro e w1 ⟨rfl, S1, hb1⟩
  have HL := Lib.hid (l27List_any w w.heap.size w.heap.size 0 w1 S1 (by omega) hb1 (Nat.le_refl _))
  clear S1 hb1
  go_wp2_with fail
  refine HL.out.mono ?_
  rintro e w2 ⟨rs, own, h2, c2, rfl, hl, hs, O2, S2, K2⟩
  have HN := Lib.hid (O2.nk hl hs)
  have HB := Lib.hid O2.bel
  have hlen : rs.length = (rs.map NtR.x).length := by simp
  rw [hlen]
  generalize rs.map NtR.x = xs at *
  clear O2 hs hlen hl
  go_wp2
  go_ret
  exact ⟨_, _, xs, rfl, HN.out, HB.out⟩
theorem drawPackNotes_any (A : Option Addr) (n c : Nat) (w : World) (h : Bytes w A n) :
    Calls Tryz.prog 18 #[.slice A n c] w (RetDl w) := by
  have H := Lib.hid h
  clear h
  go_enter Tryz.func18, Tryz.ntmps18
  go_wp2_with fail
  refine (l00From_bytes A n c _ H.out).mono ?_
  rintro e w1 ⟨rfl, S1, hb1⟩
  have HL := Lib.hid (l27List_any w w.heap.size w.heap.size 0 w1 S1 (by omega) hb1 (Nat.le_refl _))
  clear S1 hb1
  go_wp2_with fail
  refine HL.out.mono ?_
  rintro e w2 ⟨rs, own, h2, c2, rfl, hl, hs, O2, S2, K2⟩
  have HN := Lib.hid (O2.nk hl hs)
  have HB := Lib.hid O2.bel
  have hlen : rs.length = (rs.map NtR.x).length := by simp
  rw [hlen]
  generalize rs.map NtR.x = xs at *
  clear O2 hs hlen hl
  go_wp2
  go_ret
  exact ⟨_, _, xs, rfl, HN.out, HB.out⟩
set_option maxRecDepth 100000 in
theorem l27Ask_any (A : Option Addr) (n c : Nat) (w : World) (h : Bytes w A n) :
    Calls Tryz.prog 43 #[.slice A n c] w (RetDd w) := by
  have H := Lib.hid h
  clear h
  go_enter Tryz.func43, Tryz.ntmps43
  go_wp2_with fail
  refine (l00From_bytes A n c _ H.out).mono ?_
  rintro e w1 ⟨rfl, S1, hb1⟩
  have hz1 := hb1.size
  have HL := Lib.hid (l27List_any w w.heap.size w.heap.size 0 w1 S1 (by omega) hb1 (Nat.le_refl _))
  clear S1 hb1
  go_wp2_with fail
  refine HL.out.mono ?_
  rintro e w2 ⟨rs, own, h2, c2, rfl, hl, hs, O2, S2, K2⟩
  have e1 := ext1 w2 (.cells #[.string ⟨#[97]⟩, .string ⟨#[103, 111, 108, 100, 101, 110]⟩, .string ⟨#[112, 105]⟩, .string ⟨#[122, 101, 116, 97]⟩, .string ⟨#[120]⟩] 9)
  have HO := Lib.hid (O2.next e1)
  have HS := Lib.hid (S2.next e1)
  have hlt := S2.lt
  have HRS := Lib.hid hs
  clear O2 S2 K2 e1 hs
  go_wp2_with fail
  refine (srcText_any w.heap.size w.heap.size _ (some ⟨w2.heap.size, 0, none⟩) 5 [⟨#[97]⟩, ⟨#[103, 111, 108, 100, 101, 110]⟩, ⟨#[112, 105]⟩, ⟨#[122, 101, 116, 97]⟩, ⟨#[120]⟩] _ HS.out (by omega) (rd_litS w2 #[.string ⟨#[97]⟩, .string ⟨#[103, 111, 108, 100, 101, 110]⟩, .string ⟨#[112, 105]⟩, .string ⟨#[122, 101, 116, 97]⟩, .string ⟨#[120]⟩] 9 _ rfl) (fun b o e => by injection e with e; injection e with e; omega) (by simp) (by simp)).mono ?_
  rintro e w3 ⟨s, hms, rfl, S3, K3⟩
  have hsz : s.size ≤ 10 := by
    have : ∀ s ∈ ([⟨#[97]⟩, ⟨#[103, 111, 108, 100, 101, 110]⟩, ⟨#[112, 105]⟩, ⟨#[122, 101, 116, 97]⟩, ⟨#[120]⟩] : List ByteArray), s.size ≤ 10 := by decide
    exact this s hms
  have O3 := HO.out.kept K3 (by omega) (Nat.le_refl _)
  have HN := Lib.hid (O3.nk hl HRS.out)
  have HB := Lib.hid O3.bel
  have hlen : rs.length = (rs.map NtR.x).length := by simp
  rw [hlen]
  generalize rs.map NtR.x = xs at *
  clear O3 hlen hl S3 K3 HO HS hms HRS HL
  go_wp2
  go_ret2
  exact ⟨_, _, xs, s, rfl, HN.out, hsz, HB.out⟩
theorem drawDropNote_any (A : Option Addr) (n c : Nat) (w : World) (h : Bytes w A n) :
    Calls Tryz.prog 8 #[.slice A n c] w (RetDd w) := by
  have H := Lib.hid h
  clear h
  go_enter Tryz.func8, Tryz.ntmps8
  go_wp2_with fail
  refine (l27Ask_any A n c _ H.out).mono ?_
  rintro e w1 ⟨B, d, xs, s, rfl, h1, h2, h3⟩
  have HR : Hid (RetDd w (.returned (.tuple #[.slice B xs.length d, .string s])) w1) := ⟨_, _, xs, s, rfl, h1, h2, h3⟩
  clear h1 h2 h3
  go_wp2
  go_ret2
  exact HR.out
set_option maxRecDepth 100000 in
set_option maxHeartbeats 4000000 in
theorem drawAddNote_any (A : Option Addr) (n c : Nat) (w : World) (h : Bytes w A n) :
    Calls Tryz.prog 5 #[.slice A n c] w (RetDa w) := by
  have H := Lib.hid h
  clear h
  go_enter Tryz.func5, Tryz.ntmps5
  go_wp2_with fail
  have hb0 := ext1 w (.cells #[.string ⟨#[]⟩, .int .i64 0, .int .i64 0, .int .i64 0, .slice none 0 0, .int .i64 0, .int .i64 0, .int .i64 0] 31)
  refine (l00From_bytes A n c _ (H.out.next hb0)).mono ?_
  rintro e w1 ⟨rfl, S1, hb1⟩
  simp only [World.size_alloc] at S1 ⊢
  have hb01 := ext_trans hb0 hb1
  have hz1 := S1.lt
  have R1 := Lib.hid ((BoxV.new w #[.string ⟨#[]⟩, .int .i64 0, .int .i64 0, .int .i64 0, .slice none 0 0, .int .i64 0, .int .i64 0, .int .i64 0] 31).next hb1)
  have HL := Lib.hid (l27List_any w (w.heap.size + 1) (w.heap.size + 1) 0 w1 S1 (by omega) hb01 (Nat.le_succ _))
  clear S1 hb1 hb0 hb01
  go_wp2_with fail
  refine HL.out.mono ?_
  rintro e w2 ⟨rs, own, h2, c2, rfl, hl, hs, O2, S2, K2⟩
  have e1 := ext1 w2 (.cells #[.string ⟨#[99]⟩, .string ⟨#[103, 111, 108, 100, 101, 110]⟩, .string ⟨#[112, 105]⟩, .string ⟨#[122, 101, 116, 97]⟩, .string ⟨#[109]⟩] 9)
  have HO := Lib.hid (O2.next e1)
  have HS := Lib.hid (S2.next e1)
  have R2 := Lib.hid ((R1.out.keepK K2 (by omega)).next e1)
  have hlt := S2.lt
  have HRS := Lib.hid hs
  have hzz2 := K2.2.1
  clear O2 S2 K2 e1 hs R1 HL
  go_wp2_with fail
  refine (srcText_any (w.heap.size + 1) (w.heap.size + 1) _ (some ⟨w2.heap.size, 0, none⟩) 5 [⟨#[99]⟩, ⟨#[103, 111, 108, 100, 101, 110]⟩, ⟨#[112, 105]⟩, ⟨#[122, 101, 116, 97]⟩, ⟨#[109]⟩] _ HS.out (by omega) (rd_litS w2 #[.string ⟨#[99]⟩, .string ⟨#[103, 111, 108, 100, 101, 110]⟩, .string ⟨#[112, 105]⟩, .string ⟨#[122, 101, 116, 97]⟩, .string ⟨#[109]⟩] 9 _ rfl) (fun b o e => by injection e with e; injection e with e; omega) (by simp) (by simp)).mono ?_
  rintro e w3 ⟨s, hms, rfl, S3, K3⟩
  have hsz : s.size ≤ 6 := by
    have : ∀ s ∈ ([⟨#[99]⟩, ⟨#[103, 111, 108, 100, 101, 110]⟩, ⟨#[112, 105]⟩, ⟨#[122, 101, 116, 97]⟩, ⟨#[109]⟩] : List ByteArray), s.size ≤ 6 := by decide
    exact this s hms
  have HO := Lib.hid (HO.out.kept K3 (by omega) (Nat.le_succ _))
  have R3 := Lib.hid (R2.out.keepK K3 (by omega))
  have HS3 := Lib.hid S3
  have hzz3 := K3.2.1
  simp only [World.size_alloc] at hzz3
  clear S3 K3 hms R2 HS
  go_wp2_with fail
  refine (l27Bent_any (w.heap.size + 1) _ _ s _ HS3.out (by omega)).mono ?_
  rintro e w4 ⟨x, v4, rfl, hx1, hx2, hrow4, S4, K4⟩
  obtain ⟨T4, c4, rfl⟩ := own_slice hrow4
  have HO := Lib.hid (HO.out.kept K4 (by omega) (Nat.le_succ _))
  have R4 := Lib.hid (R3.out.keepK K4 (by omega))
  have hT4 := own_wrT hrow4
  have HX : Hid (ntSm x) := ⟨by omega, hx2⟩
  have r0 := R4.out.at 0 _ rfl
  have r1 := R4.out.at 1 _ rfl
  have r2 := R4.out.at 2 _ rfl
  have r3 := R4.out.at 3 _ rfl
  have r4 := R4.out.at 4 _ rfl
  have r5 := R4.out.at 5 _ rfl
  have r6 := R4.out.at 6 _ rfl
  have r7 := R4.out.at 7 _ rfl
  have f0 := R4.out.f 0
  have f1 := R4.out.f 1
  have f2 := R4.out.f 2
  have f3 := R4.out.f 3
  have f4 := R4.out.f 4
  have f5 := R4.out.f 5
  have f6 := R4.out.f 6
  have f7 := R4.out.f 7
  have HFIN : Hid (∀ a0 a1 a2 a3 a4 a5 a6 a7 : Value, RetDa w (.returned (.tuple #[.slice (some ⟨h2, 0, none⟩) rs.length c2, ntV x.name x.kind x.num x.den T4 x.terms.length c4 x.sp x.sd x.sq])) ((((((((w4.setCell ⟨w.heap.size, 0, none⟩ a0).setCell ⟨w.heap.size, 1, none⟩ a1).setCell ⟨w.heap.size, 2, none⟩ a2).setCell ⟨w.heap.size, 3, none⟩ a3).setCell ⟨w.heap.size, 4, none⟩ a4).setCell ⟨w.heap.size, 5, none⟩ a5).setCell ⟨w.heap.size, 6, none⟩ a6).setCell ⟨w.heap.size, 7, none⟩ a7)) := fun a0 a1 a2 a3 a4 a5 a6 a7 => by
    have k : Keep w.heap.size w4 _ := ((((((((Keep.refl w.heap.size w4).set 0 a0).set 1 a1).set 2 a2).set 3 a3).set 4 a4).set 5 a5).set 6 a6).set 7 a7
    have hn := HO.out.kept k (by omega) (Nat.le_refl _)
    have hk := hn.nk hl HRS.out
    have hT5 := (wr_far8 hT4.1 (i := w.heap.size) (by omega) a0 a1 a2 a3 a4 a5 a6 a7)
    refine ⟨_, c2, rs.map NtR.x, x, T4, c4, by rw [List.length_map], hk, HX.out, ⟨hT5.rd, hT4.2⟩, hn.bel⟩
  clear hrow4 S4 K4 HO R3 hT4 HS3
  go_wp2
  refine bodyPost_ret ?_ rfl (HFIN.out _ _ _ _ _ _ _ _)
  simp [results, Tryz.results5, go_sem, r0, r1, r2, r3, r4, r5, r6, r7]
end Go.Proofs.YtpnabggpdgjbmaaGreatDoor
namespace Go.Proofs.YtpnabggpdgjbmaaGreatDoor
open Go.RowKit Go.Sort
theorem own_fullC {w : World} {base : Nat} {v : Value} {xs : List Int} (h : w.ownsRow base 2 1 v xs.length (xs.map (Value.int .i64))) : ∃ A c, v = .slice A xs.length c ∧ Wr (Value.int .i64) w base A xs ∧ xs.length ≤ c ∧ c ≤ maxLen := by
  obtain ⟨_, A, c, e, g⟩ := Wr.of_own h
  refine ⟨A, c, e, g, ?_⟩
  rcases h.2 with ⟨e2, h0⟩ | ⟨g', cap, cur, e2, _, _, hc, hm, _⟩
  · rw [e] at e2
    injection e2 with _ _ e3
    rw [e3, h0]
    exact ⟨Nat.le_refl _, Nat.zero_le _⟩
  · rw [e] at e2
    injection e2 with _ _ e3
    rw [e3]
    exact ⟨hc, hm⟩
/-- What a call returns that makes a slice with room. -/
def RetCap (w : World) (xs : List Int) (e : Ending) (w' : World) : Prop :=
  ∃ A c, e = .returned (.slice A xs.length c) ∧ Wr (Value.int .i64) w' w.heap.size A xs ∧ (xs.length ≤ c ∧ c ≤ maxLen) ∧ Below w.heap.size w w'
theorem nil_yes (n c : Nat) (w : World) : (binOp BinOp.eql 27 (.slice none n c) (.slice none 0 0)).run Tryz.prog w = .ok (.bool true) w := by kernel_rfl
theorem nil_no (a : Addr) (n c : Nat) (w : World) : (binOp BinOp.eql 27 (.slice (some a) n c) (.slice none 0 0)).run Tryz.prog w = .ok (.bool false) w := by kernel_rfl
set_option maxRecDepth 100000 in
theorem l00Own_any (A : Option Addr) (c : Nat) (xs : List Int) (w : World) (hx : Rd (Value.int .i64) w w.heap.size A xs) (hm : xs.length ≤ 1048576) :
    Calls Tryz.prog 89 #[.slice A xs.length c] w (RetCap w xs) := by
  obtain ⟨i0, hi, hz0, hz1, hz2⟩ := info_parts info64
  have HI := Lib.hid hi
  have hown : Hid ((w.alloc (.cells #[] 2)).ownsRow w.heap.size 2 1 (.slice (some ⟨w.heap.size, 0, none⟩) 0 0) 0 []) := by
    have h := World.ownsRow_lit (base := w.heap.size) (e := 2) (size := 1) w #[] 0 (by simp) (by simp) rfl
    unfold Hid
    simpa using h
  clear hi
  rcases Nat.eq_zero_or_pos xs.length with h0 | h0
  · obtain rfl : xs = [] := List.eq_nil_of_length_eq_zero h0
    clear h0 hx hm
    cases A with
    | none =>
      have hq := nil_yes 0 c w
      have hr := run_append_empty (some ⟨w.heap.size, 0, none⟩) 0 0 none c 27 (w.alloc (.cells #[] 2)) (Nat.le_refl _)
      go_enter Tryz.func89, Tryz.ntmps89
      go_wp2
      go_ret
      first
        | exact ⟨none, 0, rfl, fun h => absurd h (by simp), ⟨Nat.le_refl _, Nat.zero_le _⟩, Below.refl _ _⟩
        | exact ⟨_, 0, rfl, fun h => absurd h (by simp), ⟨Nat.le_refl _, Nat.zero_le _⟩, ext1 _ _⟩
    | some a =>
      have hq := nil_no a 0 c w
      have hr := run_append_empty (some ⟨w.heap.size, 0, none⟩) 0 0 (some a) c 27 (w.alloc (.cells #[] 2)) (Nat.le_refl _)
      go_enter Tryz.func89, Tryz.ntmps89
      go_wp2
      go_ret
      exact ⟨_, 0, rfl, fun h => absurd h (by simp), ⟨Nat.le_refl _, Nat.zero_le _⟩, ext1 _ _⟩
  · obtain ⟨b, off, rfl, hb, hc⟩ := hx h0
    have HC := Lib.hid hc
    have hq := nil_no ⟨b, off, none⟩ xs.length c w
    clear hc h0
    go_enter Tryz.func89, Tryz.ntmps89
    go_wp2_with (at_builtin; refine wpList_append_own _ rfl _ _ 27 rfl w.heap.size 2 i0 (.int .i64 0) 1 8 Tryz.underlying27 HI.out hz0 hz1 hz2 rfl (by decide) _ _ _ rfl hown.out ⟨b, off, none⟩ xs.length c (xs.map (Value.int .i64)) rfl (by simp) ?c1 ?c2 ?c3 ?c4 ?c5 ?_)
    case c1 =>
      intro j u hu
      rw [List.getElem?_map] at hu
      cases hx : xs[j]? with
      | none => rw [hx] at hu; cases hu
      | some x =>
        rw [hx] at hu
        obtain rfl := Option.some.inj hu
        have hcx := HC.out j x hx
        have ea : (⟨b, off, none⟩ : Addr).add j = ⟨b, off + j, none⟩ := by simp [Addr.add]
        rw [ea]
        exact (World.cell?_alloc_lt _ _ _ (block_lt_of_cell hcx)).trans hcx
    case c2 => intro u hu; obtain ⟨x, _, rfl⟩ := List.mem_map.1 hu; rfl
    case c3 => unfold maxLen; omega
    case c4 => omega
    case c5 => simp
    intro v' w3 hown3 hgrow hnil
    have hb := below_grown (ext1 w (.cells #[] 2)) hown.out (Nat.le_refl _) hgrow
    have hown4 : w3.ownsRow w.heap.size 2 1 v' xs.length (xs.map (Value.int .i64)) := by simpa using hown3
    obtain ⟨A3, c3, rfl, hw3, h3⟩ := own_fullC hown4
    have HH := Lib.hid (And.intro hw3 h3)
    clear hown3 hgrow hnil hown4 hw3 h3
    go_wp2
    go_ret
    exact ⟨_, _, rfl, HH.out.1, HH.out.2, hb⟩
set_option maxRecDepth 100000 in
theorem clone_any (A : Option Addr) (c : Nat) (xs : List Int) (w : World) (hx : Rd (Value.int .i64) w w.heap.size A xs) (hm : xs.length ≤ 1048576) :
    Calls Tryz.prog 84 #[.slice A xs.length c] w (RetCap w xs) := by
  obtain ⟨i0, hi, hz0, hz1, hz2⟩ := info_parts info64
  have HI := Lib.hid hi
  have hown : Hid ((w.alloc (.cells #[] 2)).ownsRow w.heap.size 2 1 (.slice (some ⟨w.heap.size, 0, none⟩) 0 0) 0 []) := by
    have h := World.ownsRow_lit (base := w.heap.size) (e := 2) (size := 1) w #[] 0 (by simp) (by simp) rfl
    unfold Hid
    simpa using h
  clear hi
  rcases Nat.eq_zero_or_pos xs.length with h0 | h0
  · obtain rfl : xs = [] := List.eq_nil_of_length_eq_zero h0
    clear h0 hx hm
    cases A with
    | none =>
      have hq := nil_yes 0 c w
      have hr := run_append_empty (some ⟨w.heap.size, 0, none⟩) 0 0 none c 27 (w.alloc (.cells #[] 2)) (Nat.le_refl _)
      go_enter Tryz.func84, Tryz.ntmps84
      go_wp2
      go_ret
      first
        | exact ⟨none, 0, rfl, fun h => absurd h (by simp), ⟨Nat.le_refl _, Nat.zero_le _⟩, Below.refl _ _⟩
        | exact ⟨_, 0, rfl, fun h => absurd h (by simp), ⟨Nat.le_refl _, Nat.zero_le _⟩, ext1 _ _⟩
    | some a =>
      have hq := nil_no a 0 c w
      have hr := run_append_empty (some ⟨w.heap.size, 0, none⟩) 0 0 (some a) c 27 (w.alloc (.cells #[] 2)) (Nat.le_refl _)
      go_enter Tryz.func84, Tryz.ntmps84
      go_wp2
      go_ret
      exact ⟨_, 0, rfl, fun h => absurd h (by simp), ⟨Nat.le_refl _, Nat.zero_le _⟩, ext1 _ _⟩
  · obtain ⟨b, off, rfl, hb, hc⟩ := hx h0
    have HC := Lib.hid hc
    have hq := nil_no ⟨b, off, none⟩ xs.length c w
    clear hc h0
    go_enter Tryz.func84, Tryz.ntmps84
    go_wp2_with (at_builtin; refine wpList_append_own _ rfl _ _ 27 rfl w.heap.size 2 i0 (.int .i64 0) 1 8 Tryz.underlying27 HI.out hz0 hz1 hz2 rfl (by decide) _ _ _ rfl hown.out ⟨b, off, none⟩ xs.length c (xs.map (Value.int .i64)) rfl (by simp) ?c1 ?c2 ?c3 ?c4 ?c5 ?_)
    case c1 =>
      intro j u hu
      rw [List.getElem?_map] at hu
      cases hx : xs[j]? with
      | none => rw [hx] at hu; cases hu
      | some x =>
        rw [hx] at hu
        obtain rfl := Option.some.inj hu
        have hcx := HC.out j x hx
        have ea : (⟨b, off, none⟩ : Addr).add j = ⟨b, off + j, none⟩ := by simp [Addr.add]
        rw [ea]
        exact (World.cell?_alloc_lt _ _ _ (block_lt_of_cell hcx)).trans hcx
    case c2 => intro u hu; obtain ⟨x, _, rfl⟩ := List.mem_map.1 hu; rfl
    case c3 => unfold maxLen; omega
    case c4 => omega
    case c5 => simp
    intro v' w3 hown3 hgrow hnil
    have hb := below_grown (ext1 w (.cells #[] 2)) hown.out (Nat.le_refl _) hgrow
    have hown4 : w3.ownsRow w.heap.size 2 1 v' xs.length (xs.map (Value.int .i64)) := by simpa using hown3
    obtain ⟨A3, c3, rfl, hw3, h3⟩ := own_fullC hown4
    have HH := Lib.hid (And.intro hw3 h3)
    clear hown3 hgrow hnil hown4 hw3 h3
    go_wp2
    go_ret
    exact ⟨_, _, rfl, HH.out.1, HH.out.2, hb⟩
end Go.Proofs.YtpnabggpdgjbmaaGreatDoor
namespace Go.Proofs.YtpnabggpdgjbmaaGreatDoor
open Go.RowKit Go.Sort
def RetNt (w : World) (x : Nt) (e : Ending) (w' : World) : Prop :=
  ∃ B d, e = .returned (ntV x.name x.kind x.num x.den B x.terms.length d x.sp x.sd x.sq) ∧ WrT w' w.heap.size B d x.terms ∧ Below w.heap.size w w'
theorem BoxV.twoN (w : World) (a b : List Value) (t u : TypeId) : BoxV w.heap.size a ((w.alloc (.cells a.toArray t)).alloc (.cells b.toArray u)) ∧ BoxV (w.heap.size + 1) b ((w.alloc (.cells a.toArray t)).alloc (.cells b.toArray u)) := by
  refine ⟨by have h := (BoxV.new w a.toArray t).alloc (.cells b.toArray u); simpa using h, ?_⟩
  have h := BoxV.new (w.alloc (.cells a.toArray t)) b.toArray u
  rw [show (w.alloc (.cells a.toArray t)).heap.size = w.heap.size + 1 by simp] at h
  simpa using h
set_option maxRecDepth 100000 in
set_option maxHeartbeats 4000000 in
theorem copyNote_any (x : Nt) (T : Option Addr) (c : Nat) (w : World) (hx : RdT w w.heap.size T c x.terms) (hl : x.terms.length ≤ 1048576) :
    Calls Tryz.prog 38 #[ntV x.name x.kind x.num x.den T x.terms.length c x.sp x.sd x.sq] w (RetNt w x) := by
  unfold RetNt
  generalize x.name = s at *
  generalize x.kind = k at *
  generalize x.num = n at *
  generalize x.den = m at *
  generalize x.sp = p at *
  generalize x.sd = f at *
  generalize x.sq = q at *
  generalize x.terms = xs at *
  have HC : Hid (∀ W : World, Below w.heap.size w W → Calls Tryz.prog 84 #[.slice T xs.length c] W (RetCap W xs)) := fun W hb => clone_any T c xs W (hx.next hb).1 hl
  unfold RetCap at HC
  clear hx
  unfold ntV
  go_enter Tryz.func38, Tryz.ntmps38
  go_wp2_with fail
  have E2 := ext_alloc (ext1 w (.cells #[.string s, .int .i64 k, .int .i64 n, .int .i64 m, .slice T xs.length c, .int .i64 p, .int .i64 f, .int .i64 q] 31)) (.cells #[.string ByteArray.empty, .int .i64 0, .int .i64 0, .int .i64 0, .slice none 0 0, .int .i64 0, .int .i64 0, .int .i64 0] 31)
  refine (HC.out _ E2).mono ?_
  rintro e w1 ⟨A, d, rfl, hw1, hcap, hb1⟩
  have hy1 := hb1.size
  (try simp at hy1)
  have hz0 : w.heap.size < w1.heap.size := by omega
  have hz1 : w.heap.size + 1 < w1.heap.size := by omega
  have HE := Lib.hid (ext_trans E2 hb1)
  have hbz : w.heap.size ≤ ((w.alloc (.cells #[.string s, .int .i64 k, .int .i64 n, .int .i64 m, .slice T xs.length c, .int .i64 p, .int .i64 f, .int .i64 q] 31)).alloc (.cells #[.string ByteArray.empty, .int .i64 0, .int .i64 0, .int .i64 0, .slice none 0 0, .int .i64 0, .int .i64 0, .int .i64 0] 31)).heap.size := E2.size
  have HW := Lib.hid hw1
  have B0 := (BoxV.twoN w [.string s, .int .i64 k, .int .i64 n, .int .i64 m, .slice T xs.length c, .int .i64 p, .int .i64 f, .int .i64 q] [.string ByteArray.empty, .int .i64 0, .int .i64 0, .int .i64 0, .slice none 0 0, .int .i64 0, .int .i64 0, .int .i64 0] 31 31).1.next hb1
  have B1 := (BoxV.twoN w [.string s, .int .i64 k, .int .i64 n, .int .i64 m, .slice T xs.length c, .int .i64 p, .int .i64 f, .int .i64 q] [.string ByteArray.empty, .int .i64 0, .int .i64 0, .int .i64 0, .slice none 0 0, .int .i64 0, .int .i64 0, .int .i64 0] 31 31).2.next hb1
  have fz := B0.f 4
  have z4 := B0.at 4 _ rfl
  have B0 := B0.set 4 (.slice A xs.length d) (by simp)
  have B1 := B1.setFar (b := w.heap.size) (j := 4) (.slice A xs.length d) (by omega)
  have x0 := B0.at 0 _ rfl
  have x1 := B0.at 1 _ rfl
  have x2 := B0.at 2 _ rfl
  have x3 := B0.at 3 _ rfl
  have x4 := B0.at 4 _ rfl
  have x5 := B0.at 5 _ rfl
  have x6 := B0.at 6 _ rfl
  have x7 := B0.at 7 _ rfl
  have r0 := B1.at 0 _ rfl
  have r1 := B1.at 1 _ rfl
  have r2 := B1.at 2 _ rfl
  have r3 := B1.at 3 _ rfl
  have r4 := B1.at 4 _ rfl
  have r5 := B1.at 5 _ rfl
  have r6 := B1.at 6 _ rfl
  have r7 := B1.at 7 _ rfl
  have f0 := B1.f 0
  have f1 := B1.f 1
  have f2 := B1.f 2
  have f3 := B1.f 3
  have f4 := B1.f 4
  have f5 := B1.f 5
  have f6 := B1.f 6
  have f7 := B1.f 7
  have HZ := Lib.hid hbz
  clear E2 hw1 hb1 B0 B1 hbz
  go_wp2
  refine bodyPost_ret (v := ntV s k n m A xs.length d p f q) (by simp [results, Tryz.results38, go_sem, r0, r1, r2, r3, r4, r5, r6, r7]) rfl ⟨A, d, rfl, ⟨?_, hcap⟩, ?_⟩
  · refine Wr.more (B := ((w.alloc (.cells #[.string s, .int .i64 k, .int .i64 n, .int .i64 m, .slice T xs.length c, .int .i64 p, .int .i64 f, .int .i64 q] 31)).alloc (.cells #[.string ByteArray.empty, .int .i64 0, .int .i64 0, .int .i64 0, .slice none 0 0, .int .i64 0, .int .i64 0, .int .i64 0] 31)).heap.size) ?_ HZ.out
    iterate 9 (refine Wr.setLow ?_ (by first | (simp; done) | (simp; omega)) _)
    exact HW.out
  · iterate 9 (refine ext_set ?_ (by first | (simp; done) | (simp; omega)) _)
    exact HE.out
end Go.Proofs.YtpnabggpdgjbmaaGreatDoor
namespace Go.Proofs.YtpnabggpdgjbmaaGreatDoor
open Go.RowKit Go.Sort
set_option maxRecDepth 100000 in
set_option maxHeartbeats 4000000 in
theorem l27Own_any (x : Nt) (b o : Nat) (T : Option Addr) (c : Nat) (w : World) (ha : NtAt w b o x T c) (hx : RdT w w.heap.size T c x.terms) (hl : x.terms.length ≤ 1048576) :
    Calls Tryz.prog 45 #[.pointer (some ⟨b, o, none⟩)] w (RetNt w x) := by
  unfold RetNt
  have hbl : b < w.heap.size := World.block_lt_of_cell? w _ ha.c0
  obtain ⟨c0, c1, c2, c3, c4, c5, c6, c7⟩ := ha
  generalize x.name = s at *
  generalize x.kind = k at *
  generalize x.num = n at *
  generalize x.den = m at *
  generalize x.sp = p at *
  generalize x.sd = f at *
  generalize x.sq = q at *
  generalize x.terms = xs at *
  have HC : Hid (∀ W : World, Below w.heap.size w W → Calls Tryz.prog 89 #[.slice T xs.length c] W (RetCap W xs)) := fun W hb => l00Own_any T c xs W (hx.next hb).1 hl
  unfold RetCap at HC
  clear hx
  go_enter Tryz.func45, Tryz.ntmps45
  go_wp2_with fail
  have E2 := ext_alloc (ext1 w (.cells #[.string ByteArray.empty, .int .i64 0, .int .i64 0, .int .i64 0, .slice none 0 0, .int .i64 0, .int .i64 0, .int .i64 0] 31)) (.cells #[.string s, .int .i64 k, .int .i64 n, .int .i64 m, .slice T xs.length c, .int .i64 p, .int .i64 f, .int .i64 q] 31)
  refine (HC.out _ E2).mono ?_
  rintro e w1 ⟨A, d, rfl, hw1, hcap, hb1⟩
  have hy1 := hb1.size
  (try simp at hy1)
  have hz0 : w.heap.size < w1.heap.size := by omega
  have hz1 : w.heap.size + 1 < w1.heap.size := by omega
  have HE := Lib.hid (ext_trans E2 hb1)
  have hbz : w.heap.size ≤ ((w.alloc (.cells #[.string ByteArray.empty, .int .i64 0, .int .i64 0, .int .i64 0, .slice none 0 0, .int .i64 0, .int .i64 0, .int .i64 0] 31)).alloc (.cells #[.string s, .int .i64 k, .int .i64 n, .int .i64 m, .slice T xs.length c, .int .i64 p, .int .i64 f, .int .i64 q] 31)).heap.size := E2.size
  have HW := Lib.hid hw1
  have B1 := (BoxV.twoN w [.string ByteArray.empty, .int .i64 0, .int .i64 0, .int .i64 0, .slice none 0 0, .int .i64 0, .int .i64 0, .int .i64 0] [.string s, .int .i64 k, .int .i64 n, .int .i64 m, .slice T xs.length c, .int .i64 p, .int .i64 f, .int .i64 q] 31 31).1.next hb1
  have B0 := (BoxV.twoN w [.string ByteArray.empty, .int .i64 0, .int .i64 0, .int .i64 0, .slice none 0 0, .int .i64 0, .int .i64 0, .int .i64 0] [.string s, .int .i64 k, .int .i64 n, .int .i64 m, .slice T xs.length c, .int .i64 p, .int .i64 f, .int .i64 q] 31 31).2.next hb1
  have fz := B0.f 4
  have z4 := B0.at 4 _ rfl
  have B0 := B0.set 4 (.slice A xs.length d) (by simp)
  have B1 := B1.setFar (b := w.heap.size + 1) (j := 4) (.slice A xs.length d) (by omega)
  have x0 := B0.at 0 _ rfl
  have x1 := B0.at 1 _ rfl
  have x2 := B0.at 2 _ rfl
  have x3 := B0.at 3 _ rfl
  have x4 := B0.at 4 _ rfl
  have x5 := B0.at 5 _ rfl
  have x6 := B0.at 6 _ rfl
  have x7 := B0.at 7 _ rfl
  have r0 := B1.at 0 _ rfl
  have r1 := B1.at 1 _ rfl
  have r2 := B1.at 2 _ rfl
  have r3 := B1.at 3 _ rfl
  have r4 := B1.at 4 _ rfl
  have r5 := B1.at 5 _ rfl
  have r6 := B1.at 6 _ rfl
  have r7 := B1.at 7 _ rfl
  have f0 := B1.f 0
  have f1 := B1.f 1
  have f2 := B1.f 2
  have f3 := B1.f 3
  have f4 := B1.f 4
  have f5 := B1.f 5
  have f6 := B1.f 6
  have f7 := B1.f 7
  have HZ := Lib.hid hbz
  clear E2 hw1 hb1 B0 B1 hbz
  go_wp2
  refine bodyPost_ret (v := ntV s k n m A xs.length d p f q) (by simp [results, Tryz.results45, go_sem, r0, r1, r2, r3, r4, r5, r6, r7]) rfl ⟨A, d, rfl, ⟨?_, hcap⟩, ?_⟩
  · refine Wr.more (B := ((w.alloc (.cells #[.string ByteArray.empty, .int .i64 0, .int .i64 0, .int .i64 0, .slice none 0 0, .int .i64 0, .int .i64 0, .int .i64 0] 31)).alloc (.cells #[.string s, .int .i64 k, .int .i64 n, .int .i64 m, .slice T xs.length c, .int .i64 p, .int .i64 f, .int .i64 q] 31)).heap.size) ?_ HZ.out
    iterate 9 (refine Wr.setLow ?_ (by first | (simp; done) | (simp; omega)) _)
    exact HW.out
  · iterate 9 (refine ext_set ?_ (by first | (simp; done) | (simp; omega)) _)
    exact HE.out
end Go.Proofs.YtpnabggpdgjbmaaGreatDoor
