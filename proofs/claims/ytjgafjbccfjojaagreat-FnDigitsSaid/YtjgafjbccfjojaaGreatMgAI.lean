/- Parts of the proof, merged: OwnW CloneW DigDoW. No condition but those that each theorem names. -/
import Derived.Test.YtjgafjbccfjojaaGreatMgAB
import Derived.Test.YtjgafjbccfjojaaGreatMgAH
namespace Go.Proofs.YtjgafjbccfjojaaGreat
open Go.RowKit Go.Sort
theorem l00Own_at (b off c : Nat) (xs : List Int) (w : World) (hc : ∀ j x, xs[j]? = some x → w.cell? ⟨b, off + j, none⟩ = some (.int .i64 x)) (hm : xs.length ≤ 1048576) :
    Calls Tryz.prog 29 #[.slice (some ⟨b, off, none⟩) xs.length c] w fun e w' => ∃ v, e = .returned v ∧ w'.ownsRow w.heap.size 2 1 v xs.length (xs.map (Value.int .i64)) ∧ v ≠ .slice none 0 0 ∧ Below w.heap.size w w' := by
  obtain ⟨i0, hi, hz0, hz1, hz2⟩ := info_parts info64
  have HI := Lib.hid hi
  have HC := Lib.hid hc
  clear hi hc
  have hown : Hid ((w.alloc (.cells #[] 2)).ownsRow w.heap.size 2 1 (.slice (some ⟨w.heap.size, 0, none⟩) 0 0) 0 []) := by
    have h := World.ownsRow_lit (base := w.heap.size) (e := 2) (size := 1) w #[] 0 (by simp) (by simp) rfl
    unfold Hid
    simpa using h
  go_enter Tryz.func29, Tryz.ntmps29
  go_wp2_with (at_builtin; refine wpList_append_own _ rfl _ _ 24 rfl w.heap.size 2 i0 (.int .i64 0) 1 8 Tryz.underlying24 HI.out hz0 hz1 hz2 rfl (by decide) _ _ _ rfl hown.out ⟨b, off, none⟩ xs.length c (xs.map (Value.int .i64)) rfl (by simp) ?c1 ?c2 ?c3 ?c4 ?c5 ?_)
  case c1 =>
    intro j u hu
    rw [List.getElem?_map] at hu
    cases hx : xs[j]? with
    | none => rw [hx] at hu; cases hu
    | some x =>
      rw [hx] at hu
      obtain rfl := Option.some.inj hu
      have hcx := HC.out j x hx
      have ea : (⟨b, off, none⟩ : Addr).add j = ⟨b, off + j, none⟩ := by simp [Addr.add]
      rw [ea]
      exact (World.cell?_alloc_lt _ _ _ (block_lt_of_cell hcx)).trans hcx
  case c2 => intro u hu; obtain ⟨x, _, rfl⟩ := List.mem_map.1 hu; rfl
  case c3 => unfold maxLen; omega
  case c4 => omega
  case c5 => simp
  intro v' w3 hown3 hgrow hnil
  have hn : v' ≠ .slice none 0 0 := hnil
  have hb := below_grown (ext1 w (.cells #[] 2)) hown.out (Nat.le_refl _) hgrow
  go_wp2
  go_ret
  exact ⟨_, rfl, hown3, hn, hb⟩
end Go.Proofs.YtjgafjbccfjojaaGreat
namespace Go.Proofs.YtjgafjbccfjojaaGreat
open Go.RowKit Go.Sort
theorem own_fullC {w : World} {base : Nat} {v : Value} {xs : List Int} (h : w.ownsRow base 2 1 v xs.length (xs.map (Value.int .i64))) : ∃ A c, v = .slice A xs.length c ∧ Wr (Value.int .i64) w base A xs ∧ xs.length ≤ c ∧ c ≤ maxLen := by
  obtain ⟨_, A, c, e, g⟩ := Wr.of_own h
  refine ⟨A, c, e, g, ?_⟩
  rcases h.2 with ⟨e2, h0⟩ | ⟨g', cap, cur, e2, _, _, hc, hm, _⟩
  · rw [e] at e2
    injection e2 with _ _ e3
    rw [e3, h0]
    exact ⟨Nat.le_refl _, Nat.zero_le _⟩
  · rw [e] at e2
    injection e2 with _ _ e3
    rw [e3]
    exact ⟨hc, hm⟩
/-- What a call returns that makes a slice with room. -/
def RetCap (w : World) (xs : List Int) (e : Ending) (w' : World) : Prop :=
  ∃ A c, e = .returned (.slice A xs.length c) ∧ Wr (Value.int .i64) w' w.heap.size A xs ∧ (xs.length ≤ c ∧ c ≤ maxLen) ∧ Below w.heap.size w w'
theorem nil_yes (n c : Nat) (w : World) : (binOp BinOp.eql 24 (.slice none n c) (.slice none 0 0)).run Tryz.prog w = .ok (.bool true) w := by kernel_rfl
theorem nil_no (a : Addr) (n c : Nat) (w : World) : (binOp BinOp.eql 24 (.slice (some a) n c) (.slice none 0 0)).run Tryz.prog w = .ok (.bool false) w := by kernel_rfl
set_option maxRecDepth 100000 in
theorem l00Own_any (A : Option Addr) (c : Nat) (xs : List Int) (w : World) (hx : Rd (Value.int .i64) w w.heap.size A xs) (hm : xs.length ≤ 1048576) :
    Calls Tryz.prog 29 #[.slice A xs.length c] w (RetCap w xs) := by
  obtain ⟨i0, hi, hz0, hz1, hz2⟩ := info_parts info64
  have HI := Lib.hid hi
  have hown : Hid ((w.alloc (.cells #[] 2)).ownsRow w.heap.size 2 1 (.slice (some ⟨w.heap.size, 0, none⟩) 0 0) 0 []) := by
    have h := World.ownsRow_lit (base := w.heap.size) (e := 2) (size := 1) w #[] 0 (by simp) (by simp) rfl
    unfold Hid
    simpa using h
  clear hi
  rcases Nat.eq_zero_or_pos xs.length with h0 | h0
  · obtain rfl : xs = [] := List.eq_nil_of_length_eq_zero h0
    clear h0 hx hm
    cases A with
    | none =>
      have hq := nil_yes 0 c w
      have hr := run_append_empty (some ⟨w.heap.size, 0, none⟩) 0 0 none c 24 (w.alloc (.cells #[] 2)) (Nat.le_refl _)
      go_enter Tryz.func29, Tryz.ntmps29
      go_wp2
      go_ret
      first
        | exact ⟨none, 0, rfl, fun h => absurd h (by simp), ⟨Nat.le_refl _, Nat.zero_le _⟩, Below.refl _ _⟩
        | exact ⟨_, 0, rfl, fun h => absurd h (by simp), ⟨Nat.le_refl _, Nat.zero_le _⟩, ext1 _ _⟩
    | some a =>
      have hq := nil_no a 0 c w
      have hr := run_append_empty (some ⟨w.heap.size, 0, none⟩) 0 0 (some a) c 24 (w.alloc (.cells #[] 2)) (Nat.le_refl _)
      go_enter Tryz.func29, Tryz.ntmps29
      go_wp2
      go_ret
      exact ⟨_, 0, rfl, fun h => absurd h (by simp), ⟨Nat.le_refl _, Nat.zero_le _⟩, ext1 _ _⟩
  · obtain ⟨b, off, rfl, hb, hc⟩ := hx h0
    have HC := Lib.hid hc
    have hq := nil_no ⟨b, off, none⟩ xs.length c w
    clear hc h0
    go_enter Tryz.func29, Tryz.ntmps29
    go_wp2_with (at_builtin; refine wpList_append_own _ rfl _ _ 24 rfl w.heap.size 2 i0 (.int .i64 0) 1 8 Tryz.underlying24 HI.out hz0 hz1 hz2 rfl (by decide) _ _ _ rfl hown.out ⟨b, off, none⟩ xs.length c (xs.map (Value.int .i64)) rfl (by simp) ?c1 ?c2 ?c3 ?c4 ?c5 ?_)
    case c1 =>
      intro j u hu
      rw [List.getElem?_map] at hu
      cases hx : xs[j]? with
      | none => rw [hx] at hu; cases hu
      | some x =>
        rw [hx] at hu
        obtain rfl := Option.some.inj hu
        have hcx := HC.out j x hx
        have ea : (⟨b, off, none⟩ : Addr).add j = ⟨b, off + j, none⟩ := by simp [Addr.add]
        rw [ea]
        exact (World.cell?_alloc_lt _ _ _ (block_lt_of_cell hcx)).trans hcx
    case c2 => intro u hu; obtain ⟨x, _, rfl⟩ := List.mem_map.1 hu; rfl
    case c3 => unfold maxLen; omega
    case c4 => omega
    case c5 => simp
    intro v' w3 hown3 hgrow hnil
    have hb := below_grown (ext1 w (.cells #[] 2)) hown.out (Nat.le_refl _) hgrow
    have hown4 : w3.ownsRow w.heap.size 2 1 v' xs.length (xs.map (Value.int .i64)) := by simpa using hown3
    obtain ⟨A3, c3, rfl, hw3, h3⟩ := own_fullC hown4
    have HH := Lib.hid (And.intro hw3 h3)
    clear hown3 hgrow hnil hown4 hw3 h3
    go_wp2
    go_ret
    exact ⟨_, _, rfl, HH.out.1, HH.out.2, hb⟩
set_option maxRecDepth 100000 in
theorem clone_any (A : Option Addr) (c : Nat) (xs : List Int) (w : World) (hx : Rd (Value.int .i64) w w.heap.size A xs) (hm : xs.length ≤ 1048576) :
    Calls Tryz.prog 26 #[.slice A xs.length c] w (RetCap w xs) := by
  obtain ⟨i0, hi, hz0, hz1, hz2⟩ := info_parts info64
  have HI := Lib.hid hi
  have hown : Hid ((w.alloc (.cells #[] 2)).ownsRow w.heap.size 2 1 (.slice (some ⟨w.heap.size, 0, none⟩) 0 0) 0 []) := by
    have h := World.ownsRow_lit (base := w.heap.size) (e := 2) (size := 1) w #[] 0 (by simp) (by simp) rfl
    unfold Hid
    simpa using h
  clear hi
  rcases Nat.eq_zero_or_pos xs.length with h0 | h0
  · obtain rfl : xs = [] := List.eq_nil_of_length_eq_zero h0
    clear h0 hx hm
    cases A with
    | none =>
      have hq := nil_yes 0 c w
      have hr := run_append_empty (some ⟨w.heap.size, 0, none⟩) 0 0 none c 24 (w.alloc (.cells #[] 2)) (Nat.le_refl _)
      go_enter Tryz.func26, Tryz.ntmps26
      go_wp2
      go_ret
      first
        | exact ⟨none, 0, rfl, fun h => absurd h (by simp), ⟨Nat.le_refl _, Nat.zero_le _⟩, Below.refl _ _⟩
        | exact ⟨_, 0, rfl, fun h => absurd h (by simp), ⟨Nat.le_refl _, Nat.zero_le _⟩, ext1 _ _⟩
    | some a =>
      have hq := nil_no a 0 c w
      have hr := run_append_empty (some ⟨w.heap.size, 0, none⟩) 0 0 (some a) c 24 (w.alloc (.cells #[] 2)) (Nat.le_refl _)
      go_enter Tryz.func26, Tryz.ntmps26
      go_wp2
      go_ret
      exact ⟨_, 0, rfl, fun h => absurd h (by simp), ⟨Nat.le_refl _, Nat.zero_le _⟩, ext1 _ _⟩
  · obtain ⟨b, off, rfl, hb, hc⟩ := hx h0
    have HC := Lib.hid hc
    have hq := nil_no ⟨b, off, none⟩ xs.length c w
    clear hc h0
    go_enter Tryz.func26, Tryz.ntmps26
    go_wp2_with (at_builtin; refine wpList_append_own _ rfl _ _ 24 rfl w.heap.size 2 i0 (.int .i64 0) 1 8 Tryz.underlying24 HI.out hz0 hz1 hz2 rfl (by decide) _ _ _ rfl hown.out ⟨b, off, none⟩ xs.length c (xs.map (Value.int .i64)) rfl (by simp) ?c1 ?c2 ?c3 ?c4 ?c5 ?_)
    case c1 =>
      intro j u hu
      rw [List.getElem?_map] at hu
      cases hx : xs[j]? with
      | none => rw [hx] at hu; cases hu
      | some x =>
        rw [hx] at hu
        obtain rfl := Option.some.inj hu
        have hcx := HC.out j x hx
        have ea : (⟨b, off, none⟩ : Addr).add j = ⟨b, off + j, none⟩ := by simp [Addr.add]
        rw [ea]
        exact (World.cell?_alloc_lt _ _ _ (block_lt_of_cell hcx)).trans hcx
    case c2 => intro u hu; obtain ⟨x, _, rfl⟩ := List.mem_map.1 hu; rfl
    case c3 => unfold maxLen; omega
    case c4 => omega
    case c5 => simp
    intro v' w3 hown3 hgrow hnil
    have hb := below_grown (ext1 w (.cells #[] 2)) hown.out (Nat.le_refl _) hgrow
    have hown4 : w3.ownsRow w.heap.size 2 1 v' xs.length (xs.map (Value.int .i64)) := by simpa using hown3
    obtain ⟨A3, c3, rfl, hw3, h3⟩ := own_fullC hown4
    have HH := Lib.hid (And.intro hw3 h3)
    clear hown3 hgrow hnil hown4 hw3 h3
    go_wp2
    go_ret
    exact ⟨_, _, rfl, HH.out.1, HH.out.2, hb⟩
end Go.Proofs.YtjgafjbccfjojaaGreat
namespace Go.Proofs.YtjgafjbccfjojaaGreat
open Go.RowKit Go.Sort
/-- What a call returns that tells a floor, digits and a code. -/
def RetDo (w : World) (v : Int) (xs : List Int) (c : Int) (e : Ending) (w' : World) : Prop :=
  ∃ A cap, e = .returned (.tuple #[.int .i64 v, .slice A xs.length cap, .int .i64 c]) ∧ Wr (Value.int .i64) w' w.heap.size A xs ∧ Below w.heap.size w w'
theorem RetDo.nil_ {w w' : World} {v c : Int} (h : Below w.heap.size w w') : RetDo w v [] c (.returned (.tuple #[.int .i64 v, .slice none 0 0, .int .i64 c])) w' := ⟨none, 0, rfl, fun h => absurd h (by simp), h⟩
theorem rd_tail {w : World} {B b off : Nat} {q : Int} {xs : List Int} (hb : b < B) (hc : ∀ j x, (q :: xs)[j]? = some x → w.cell? ⟨b, off + j, none⟩ = some (.int .i64 x)) : Rd (Value.int .i64) w B (some ⟨b, off + 1, none⟩) xs := fun _ =>
  ⟨b, off + 1, rfl, hb, fun j x hx => by rw [show off + 1 + j = off + (j + 1) by omega]; exact hc (j + 1) x (by simpa using hx)⟩
def doV (R : List Int × Nat × Int) : Int := R.1.getD 0 0
def doX (R : List Int × Nat × Int) : List Int := R.1.drop 1
set_option maxHeartbeats 1000000 in
theorem iDigits_bad (so : So) (H P G : Option Addr) (ch cp cg : Nat) (base count : Int) (w : World) (hr : RdSo w w.heap.size H P G so) (h0 : ¬ tdC so base count = 0) :
    Calls Tryz.prog 6 #[souV H so.hd.length ch P so.pd.length cp G so.gr.length cg, .int .i64 base, .int .i64 count] w (RetDo w 0 [] (tdC so base count)) := by
  have HV : Hid (∀ W : World, Below w.heap.size w W → Calls Tryz.prog 22 #[souV H so.hd.length ch P so.pd.length cp G so.gr.length cg] W fun e w' => e = .returned (.bool (soB so)) ∧ Below W.heap.size W w') := fun W hb => ValidSource_any so H P G ch cp cg W (hr.next hb)
  have HB := Lib.hid (isBase_any base)
  have HC := Lib.hid (within_any count 0 30)
  have HE : Hid (tdC so base count = if soB so = true then (if inR base 2 36 && inR count 0 30 then 0 else 2) else 1) := rfl
  rw [HE.out] at h0 ⊢
  clear HE hr
  unfold souV at *
  generalize so.hd.length = nh at *
  generalize so.pd.length = np at *
  generalize so.gr.length = ng at *
  generalize soB so = v at *
  generalize inR base 2 36 = b1 at *
  generalize inR count 0 30 = b2 at *
  cases v <;> cases b1 <;> cases b2
  all_goals first
    | exact absurd rfl h0
    | (clear h0
       go_enter Tryz.func6, Tryz.ntmps6
       go_wp2_with (first | (go_at_call 22; (with_reducible refine (HV.out _ (ext1 _ _)).mono ?_); rintro e w1 ⟨rfl, hb1⟩) | (go_at_call 23; (with_reducible refine (HB.out _).mono ?_); rintro e w' ⟨rfl, rfl⟩) | (go_at_call 24; (with_reducible refine (HC.out _).mono ?_); rintro e w' ⟨rfl, rfl⟩))
       first
         | exact bodyPost_ret (v := .tuple #[.int .i64 0, .slice none 0 0, .int .i64 1]) (by simp [results, Tryz.results6, go_sem]; done) rfl (RetDo.nil_ (ext_trans (ext1 _ _) hb1))
         | exact bodyPost_ret (v := .tuple #[.int .i64 0, .slice none 0 0, .int .i64 2]) (by simp [results, Tryz.results6, go_sem]; done) rfl (RetDo.nil_ (ext_trans (ext1 _ _) hb1)))
set_option maxRecDepth 100000 in
set_option maxHeartbeats 4000000 in
theorem iDigits_good (so : So) (H P G : Option Addr) (ch cp cg : Nat) (base : Int) (count : Nat) (R : List Int × Nat × Int) (w : World) (hr : RdSo w w.heap.size H P G so) (h0 : tdC so base (count : Int) = 0) (hR : DgR (tmS so) base count ⟨1, 0, 0, 1⟩ 0 [] R) :
    Calls Tryz.prog 6 #[souV H so.hd.length ch P so.pd.length cp G so.gr.length cg, .int .i64 base, .int .i64 (count : Int)] w (RetDo w (doV R) (doX R) R.2.2) := by
  obtain ⟨hs, hb, hc⟩ := tdC_zero h0
  obtain ⟨b1, b2⟩ := inR_true.1 hb
  obtain ⟨c1, c2⟩ := inR_true.1 hc
  have HV : Hid (∀ W : World, Below w.heap.size w W → Calls Tryz.prog 22 #[souV H so.hd.length ch P so.pd.length cp G so.gr.length cg] W fun e w' => e = .returned (.bool true) ∧ Below W.heap.size W w') := fun W hb => by
    have h := ValidSource_any so H P G ch cp cg W (hr.next hb)
    rwa [hs] at h
  have HB : Hid (∀ W : World, Calls Tryz.prog 23 #[.int .i64 base] W fun e w' => e = .returned (.bool true) ∧ W = w') := fun W => by
    have h := isBase_any base W
    rwa [hb] at h
  have HC : Hid (∀ W : World, Calls Tryz.prog 24 #[.int .i64 (count : Int), .int .i64 0, .int .i64 30] W fun e w' => e = .returned (.bool true) ∧ W = w') := fun W => by
    have h := within_any (count : Int) 0 30 W
    rwa [hc] at h
  have HD : Hid (∀ W : World, Below w.heap.size w W → Calls Tryz.prog 25 #[souV H so.hd.length ch P so.pd.length cp G so.gr.length cg, .int .i64 base, .int .i64 (count : Int)] W (RetDg W R)) := fun W h => digitsOf_any so H P G ch cp cg base count R W (hr.next h) hs b1 b2 (by omega) hR
  have HF : Hid ((R.2.2 = 0 ∧ R.1.length = count + 1) ∨ (R.1 = [] ∧ R.2.1 = 0 ∧ R.2.2 ≠ 0)) := hR.fin (by simp)
  clear hr h0 hR hs hb hc
  obtain ⟨l, m, c⟩ := R
  unfold RetDg at HD
  simp only at HD HF ⊢
  unfold souV at *
  generalize so.hd.length = nh at *
  generalize so.pd.length = np at *
  generalize so.gr.length = ng at *
  rcases HF.out with ⟨h1, h2⟩ | ⟨h1, h2⟩
  · obtain ⟨q, xs, hqx⟩ : ∃ q xs, l = q :: xs := by
      cases l with
      | nil => simp at h2
      | cons q xs => exact ⟨q, xs, rfl⟩
    subst hqx
    subst h1
    have hx30 : xs.length ≤ 30 := by simp at h2; omega
    have HQ : Hid (doV (q :: xs, m, 0) = q ∧ doX (q :: xs, m, 0) = xs) := ⟨rfl, rfl⟩
    rw [HQ.out.1, HQ.out.2]
    clear HF HQ h2
    simp only [List.length_cons] at HD
    go_enter Tryz.func6, Tryz.ntmps6
    go_wp2_with fail
    refine (HV.out _ (ext1 _ _)).mono ?_
    rintro e w1 ⟨rfl, hb1⟩
    obtain ⟨hc1, hf1⟩ := bcell hb1
    have hz1 : w.heap.size < w1.heap.size := by have := hb1.size; simp at this; omega
    have HE1 := Lib.hid (ext_trans (ext1 w (.cells #[.slice H nh ch, .slice P np cp, .slice G ng cg] 26)) hb1)
    go_wp2_with (first | (go_at_call 23; (with_reducible refine (HB.out _).mono ?_); rintro e w' ⟨rfl, rfl⟩) | (go_at_call 24; (with_reducible refine (HC.out _).mono ?_); rintro e w' ⟨rfl, rfl⟩) | (go_at_call 25; (with_reducible refine (HD.out _ HE1.out).mono ?_); rintro e w2 ⟨A2, c2, rfl, hw2, hcc2, hb2⟩; have HE2 := Lib.hid (ext_trans HE1.out hb2)))
    obtain ⟨b, off, rfl, hb0, hb, hc, hf⟩ := hw2 (by simp)
    have c0 : w2.cell? ⟨b, off, none⟩ = some (.int .i64 q) := hc 0 _ rfl
    have HRT : Hid (∀ W : World, Below w2.heap.size w2 W → Rd (Value.int .i64) W W.heap.size (some ⟨b, off + 1, none⟩) xs) := fun W h => (((rd_tail hb hc).below h).more h.size)
    have HC0 : Hid (∀ W : World, Below w2.heap.size w2 W → W.cell? ⟨b, off, none⟩ = some (.int .i64 q)) := fun W h => (h.cell (p := ⟨b, off, none⟩) hb).trans c0
    clear hw2 hc hf c0
    have hI0 : (0 : Int) ≤ (xs.length : Int) + 1 := by omega
    have hI1 : (1 : Int) ≤ ((xs.length + 1 : Nat) : Int) := by omega
    have hI2 : ((xs.length + 1 : Nat) : Int) ≤ (c2 : Int) := by omega
    have hI3 : (1 : Int) ≤ (xs.length : Int) + 1 := by omega
    have hI4 : (xs.length : Int) + 1 ≤ (c2 : Int) := by omega
    have hI5 : 0 < xs.length + 1 := by omega
    have hI6 : 1 ≤ xs.length + 1 := by omega
    have hI7 : xs.length + 1 ≤ c2 := by omega
    have hx48 : xs.length ≤ 1048576 := by omega
    by_cases hcap : c2 = 1
    · obtain rfl : xs = [] := List.eq_nil_of_length_eq_zero (by omega)
      subst hcap
      have HRT0 : Hid (∀ (W : World) (A : Option Addr), Rd (Value.int .i64) W W.heap.size A ([] : List Int)) := fun W A => Rd.nil_
      go_wp2_with fail
      go_region_held3 (fun W => W.cell? ⟨b, off, none⟩ = some (.int .i64 q))
        (exact HC0.out _ (by repeat (first | exact Below.refl _ _ | assumption | refine ext_drew ?_ | refine ext_trans ?_ (by assumption))))
        ((go_at_call 26; (refine (clone_any _ _ [] _ (HRT0.out _ _) (by simp)).mono ?_); rintro e w3 ⟨A3, c3, rfl, hw3, _, hb3⟩))
      go_wp2
      refine bodyPost_ret (v := .tuple #[.int .i64 q, .slice A3 0 c3, .int .i64 0]) (by simp [results, Tryz.results6, go_sem]; done) rfl ⟨A3, c3, rfl, fun h => absurd h (by simp), ext_trans (ext_drew HE2.out) hb3⟩
    · have hcp2 : ¬ (c2 - 1 = 0) := by omega
      go_wp2_with fail
      go_region_held3 (fun W => W.cell? ⟨b, off, none⟩ = some (.int .i64 q))
        (exact HC0.out _ (by repeat (first | exact Below.refl _ _ | assumption | refine ext_drew ?_ | refine ext_trans ?_ (by assumption))))
        ((go_at_call 26; (refine (clone_any (some ⟨b, off + 1, none⟩) (c2 - 1) xs _ (HRT.out _ (ext_drew (Below.refl _ _))) hx48).mono ?_); rintro e w3 ⟨A3, c3, rfl, hw3, _, hb3⟩))
      go_wp2
      refine bodyPost_ret (v := .tuple #[.int .i64 q, .slice A3 xs.length c3, .int .i64 0]) (by simp [results, Tryz.results6, go_sem]; done) rfl ⟨A3, c3, rfl, hw3.more (by have := HE2.out.size; simp at *; omega), ext_trans (ext_drew HE2.out) hb3⟩
  · subst h1
    have h3 : (c != 0) = true := by simpa using h2.2
    obtain rfl : m = 0 := h2.1
    have HQ : Hid (doV ([], 0, c) = 0 ∧ doX ([], 0, c) = []) := ⟨rfl, rfl⟩
    rw [HQ.out.1, HQ.out.2]
    clear HF h2 HQ
    simp only [List.length_nil] at HD
    go_enter Tryz.func6, Tryz.ntmps6
    go_wp2_with fail
    refine (HV.out _ (ext1 _ _)).mono ?_
    rintro e w1 ⟨rfl, hb1⟩
    obtain ⟨hc1, hf1⟩ := bcell hb1
    have hz1 : w.heap.size < w1.heap.size := by have := hb1.size; simp at this; omega
    have HE1 := Lib.hid (ext_trans (ext1 w (.cells #[.slice H nh ch, .slice P np cp, .slice G ng cg] 26)) hb1)
    go_wp2_with (first | (go_at_call 23; (with_reducible refine (HB.out _).mono ?_); rintro e w' ⟨rfl, rfl⟩) | (go_at_call 24; (with_reducible refine (HC.out _).mono ?_); rintro e w' ⟨rfl, rfl⟩) | (go_at_call 25; (with_reducible refine (HD.out _ HE1.out).mono ?_); rintro e w2 ⟨A2, c2, rfl, hw2, hcc2, hb2⟩; have HE2 := Lib.hid (ext_trans HE1.out hb2)))
    go_wp2
    refine bodyPost_ret (v := .tuple #[.int .i64 0, .slice none 0 0, .int .i64 c]) (by simp [results, Tryz.results6, go_sem]; done) rfl (RetDo.nil_ HE2.out)
set_option maxHeartbeats 1000000 in
theorem sDigits_bad (so : So) (H P G : Option Addr) (ch cp cg : Nat) (base count : Int) (w : World) (hr : RdSo w w.heap.size H P G so) (h0 : ¬ tdC so base count = 0) :
    Calls Tryz.prog 7 #[souV H so.hd.length ch P so.pd.length cp G so.gr.length cg, .int .i64 base, .int .i64 count] w (RetDo w 0 [] (tdC so base count)) := by
  have HV := Lib.hid (l16Code_any so w.heap.size H P G ch cp cg base count _ (hr.next (ext1 w (.cells #[.slice H so.hd.length ch, .slice P so.pd.length cp, .slice G so.gr.length cg] 26))) (SoAt.of_box (BoxV.new w #[.slice H so.hd.length ch, .slice P so.pd.length cp, .slice G so.gr.length cg] 26)))
  have h1 : (tdC so base count != 0) = true := by simpa using h0
  clear hr h0
  generalize tdC so base count = c at *
  unfold souV at *
  generalize so.hd.length = nh at *
  generalize so.pd.length = np at *
  generalize so.gr.length = ng at *
  go_enter Tryz.func7, Tryz.ntmps7
  go_wp2_with fail
  refine HV.out.mono ?_
  rintro e w1 ⟨rfl, hb1⟩
  go_wp2
  exact bodyPost_ret (v := .tuple #[.int .i64 0, .slice none 0 0, .int .i64 c]) (by simp [results, Tryz.results7, go_sem]; done) rfl (RetDo.nil_ (ext_trans (ext1 _ _) hb1))
set_option maxRecDepth 100000 in
set_option maxHeartbeats 4000000 in
theorem sDigits_good (so : So) (H P G : Option Addr) (ch cp cg : Nat) (base : Int) (count : Nat) (R : List Int × Nat × Int) (w : World) (hr : RdSo w w.heap.size H P G so) (h0 : tdC so base (count : Int) = 0) (hR : DgR (tmS so) base count ⟨1, 0, 0, 1⟩ 0 [] R) :
    Calls Tryz.prog 7 #[souV H so.hd.length ch P so.pd.length cp G so.gr.length cg, .int .i64 base, .int .i64 (count : Int)] w (RetDo w (doV R) (doX R) R.2.2) := by
  obtain ⟨hs, hb, hc⟩ := tdC_zero h0
  obtain ⟨b1, b2⟩ := inR_true.1 hb
  obtain ⟨c1, c2⟩ := inR_true.1 hc
  have HA := Lib.hid (SoAt.of_box (BoxV.new w #[.slice H so.hd.length ch, .slice P so.pd.length cp, .slice G so.gr.length cg] 26))
  have HV := Lib.hid (l16Code_any so w.heap.size H P G ch cp cg base (count : Int) _ (hr.next (ext1 w (.cells #[.slice H so.hd.length ch, .slice P so.pd.length cp, .slice G so.gr.length cg] 26))) HA.out)
  rw [h0] at HV
  have HD : Hid (∀ W : World, Below (w.alloc (.cells #[.slice H so.hd.length ch, .slice P so.pd.length cp, .slice G so.gr.length cg] 26)).heap.size (w.alloc (.cells #[.slice H so.hd.length ch, .slice P so.pd.length cp, .slice G so.gr.length cg] 26)) W → Calls Tryz.prog 28 #[.pointer (some ⟨w.heap.size, 0, none⟩), .int .i64 base, .int .i64 (count : Int)] W (RetDg W R)) := fun W h => l16Run_any so w.heap.size H P G ch cp cg base count R W ((hr.next (ext1 _ _)).next h) (HA.out.below h (by simp)) hs b1 b2 (by omega) hR
  have HF : Hid ((R.2.2 = 0 ∧ R.1.length = count + 1) ∨ (R.1 = [] ∧ R.2.1 = 0 ∧ R.2.2 ≠ 0)) := hR.fin (by simp)
  clear hr h0 hR hs hb hc HA
  obtain ⟨l, m, c⟩ := R
  unfold RetDg at HD
  simp only at HD HF ⊢
  unfold souV at *
  generalize so.hd.length = nh at *
  generalize so.pd.length = np at *
  generalize so.gr.length = ng at *
  rcases HF.out with ⟨h1, h2⟩ | ⟨h1, h2⟩
  · obtain ⟨q, xs, hqx⟩ : ∃ q xs, l = q :: xs := by
      cases l with
      | nil => simp at h2
      | cons q xs => exact ⟨q, xs, rfl⟩
    subst hqx
    subst h1
    have hx30 : xs.length ≤ 30 := by simp at h2; omega
    have HQ : Hid (doV (q :: xs, m, 0) = q ∧ doX (q :: xs, m, 0) = xs) := ⟨rfl, rfl⟩
    rw [HQ.out.1, HQ.out.2]
    clear HF HQ h2
    simp only [List.length_cons] at HD
    go_enter Tryz.func7, Tryz.ntmps7
    go_wp2_with fail
    refine HV.out.mono ?_
    rintro e w1 ⟨rfl, hb1⟩
    have HE1 := Lib.hid (ext_trans (ext1 w (.cells #[.slice H nh ch, .slice P np cp, .slice G ng cg] 26)) hb1)
    go_wp2_with (go_at_call 28; (with_reducible refine (HD.out _ hb1).mono ?_); rintro e w2 ⟨A2, c2, rfl, hw2, hcc2, hb2⟩; have HE2 := Lib.hid (ext_trans HE1.out hb2))
    obtain ⟨b, off, rfl, hb0, hb, hc, hf⟩ := hw2 (by simp)
    have c0 : w2.cell? ⟨b, off, none⟩ = some (.int .i64 q) := hc 0 _ rfl
    have HRT : Hid (∀ W : World, Below w2.heap.size w2 W → Rd (Value.int .i64) W W.heap.size (some ⟨b, off + 1, none⟩) xs) := fun W h => (((rd_tail hb hc).below h).more h.size)
    have HC0 : Hid (∀ W : World, Below w2.heap.size w2 W → W.cell? ⟨b, off, none⟩ = some (.int .i64 q)) := fun W h => (h.cell (p := ⟨b, off, none⟩) hb).trans c0
    clear hw2 hc hf c0
    have hI0 : (0 : Int) ≤ (xs.length : Int) + 1 := by omega
    have hI1 : (1 : Int) ≤ ((xs.length + 1 : Nat) : Int) := by omega
    have hI2 : ((xs.length + 1 : Nat) : Int) ≤ (c2 : Int) := by omega
    have hI3 : (1 : Int) ≤ (xs.length : Int) + 1 := by omega
    have hI4 : (xs.length : Int) + 1 ≤ (c2 : Int) := by omega
    have hI5 : 0 < xs.length + 1 := by omega
    have hI6 : 1 ≤ xs.length + 1 := by omega
    have hI7 : xs.length + 1 ≤ c2 := by omega
    have hx48 : xs.length ≤ 1048576 := by omega
    by_cases hcap : c2 = 1
    · obtain rfl : xs = [] := List.eq_nil_of_length_eq_zero (by omega)
      subst hcap
      have HRT0 : Hid (∀ (W : World) (A : Option Addr), Rd (Value.int .i64) W W.heap.size A ([] : List Int)) := fun W A => Rd.nil_
      go_wp2_with fail
      go_region_held3 (fun W => W.cell? ⟨b, off, none⟩ = some (.int .i64 q))
        (exact HC0.out _ (by repeat (first | exact Below.refl _ _ | assumption | refine ext_drew ?_ | refine ext_trans ?_ (by assumption))))
        ((go_at_call 29; (refine (l00Own_any _ _ [] _ (HRT0.out _ _) (by simp)).mono ?_); rintro e w3 ⟨A3, c3, rfl, hw3, _, hb3⟩))
      go_wp2
      refine bodyPost_ret (v := .tuple #[.int .i64 q, .slice A3 0 c3, .int .i64 0]) (by simp [results, Tryz.results7, go_sem]; done) rfl ⟨A3, c3, rfl, fun h => absurd h (by simp), ext_trans (ext_drew HE2.out) hb3⟩
    · have hcp2 : ¬ (c2 - 1 = 0) := by omega
      go_wp2_with fail
      go_region_held3 (fun W => W.cell? ⟨b, off, none⟩ = some (.int .i64 q))
        (exact HC0.out _ (by repeat (first | exact Below.refl _ _ | assumption | refine ext_drew ?_ | refine ext_trans ?_ (by assumption))))
        ((go_at_call 29; (refine (l00Own_any (some ⟨b, off + 1, none⟩) (c2 - 1) xs _ (HRT.out _ (ext_drew (Below.refl _ _))) hx48).mono ?_); rintro e w3 ⟨A3, c3, rfl, hw3, _, hb3⟩))
      go_wp2
      refine bodyPost_ret (v := .tuple #[.int .i64 q, .slice A3 xs.length c3, .int .i64 0]) (by simp [results, Tryz.results7, go_sem]; done) rfl ⟨A3, c3, rfl, hw3.more (by have := HE2.out.size; simp at *; omega), ext_trans (ext_drew HE2.out) hb3⟩
  · subst h1
    have h3 : (c != 0) = true := by simpa using h2.2
    obtain rfl : m = 0 := h2.1
    have HQ : Hid (doV ([], 0, c) = 0 ∧ doX ([], 0, c) = []) := ⟨rfl, rfl⟩
    rw [HQ.out.1, HQ.out.2]
    clear HF h2 HQ
    simp only [List.length_nil] at HD
    go_enter Tryz.func7, Tryz.ntmps7
    go_wp2_with fail
    refine HV.out.mono ?_
    rintro e w1 ⟨rfl, hb1⟩
    have HE1 := Lib.hid (ext_trans (ext1 w (.cells #[.slice H nh ch, .slice P np cp, .slice G ng cg] 26)) hb1)
    go_wp2_with (go_at_call 28; (with_reducible refine (HD.out _ hb1).mono ?_); rintro e w2 ⟨A2, c2, rfl, hw2, hcc2, hb2⟩; have HE2 := Lib.hid (ext_trans HE1.out hb2))
    go_wp2
    refine bodyPost_ret (v := .tuple #[.int .i64 0, .slice none 0 0, .int .i64 c]) (by simp [results, Tryz.results7, go_sem]; done) rfl (RetDo.nil_ HE2.out)
end Go.Proofs.YtjgafjbccfjojaaGreat
