/- Notes as sources of terms: the program's walk. No condition but those that each theorem names. -/
import Derived.Test.YtgnifhegkjmgaaaSoOfW
namespace Go.Proofs.Ytgnifhegkjmgaaa
open Go.RowKit Go.Sort Go.Maps Go.WideMaps

def RetSh (w : World) (x : Nt) (e : Ending) (w' : World) : Prop :=
  ∃ H a ca P b cb G c cc L n cl fin, e = .returned (.tuple #[shV H a ca P b cb G c cc L n cl fin, .int .i64 (ntCd x)]) ∧ (ntCd x = 0 → ShOk w' w'.heap.size H a P b G c L n fin (tmS (ntSo x))) ∧ Below w.heap.size w w'
theorem RetSh.fin_ {w w' : World} {x : Nt} {A : Option Addr} {n c : Nat} {xs : List Int} (h1 : ntSo x = ⟨xs, [], []⟩) (h2 : ntCd x = 0) (hn : xs.length = n) (hw : Rd (Value.int .i64) w' w'.heap.size A xs) (hl : xs.length ≤ 1000) (hb : Below w.heap.size w w') : RetSh w x (.returned (.tuple #[shV none 0 0 none 0 0 none 0 0 A n c true, .int .i64 0])) w' := by
  subst hn
  refine ⟨none, 0, 0, none, 0, 0, none, 0, 0, A, xs.length, c, true, by rw [h2], fun _ => .inl ⟨rfl, xs, rfl, hw, hl, fun k => ?_⟩, hb⟩
  rw [h1]; exact fin_tm xs k
/-- What a made slice of integers holds. -/
theorem made_wr (W : World) (n : Nat) (T : TypeId) : Wr (Value.int .i64) (W.alloc (.cells (madeCells #[.int .i64 0] n) T)) W.heap.size (some ⟨W.heap.size, 0, none⟩) (List.replicate n 0) := fun _ => by
  refine ⟨W.heap.size, 0, rfl, Nat.le_refl _, by simp, fun j x hx => ?_, fun j => World.frozen?_alloc_at _ _ _ _ rfl⟩
  rw [List.getElem?_replicate] at hx
  split at hx
  · injection hx with hx
    subst hx
    rename_i hj
    rw [Nat.zero_add, cell_one]
    simp [madeCells, hj, Nat.mod_one]
  · cases hx
theorem cell_two_2 (w : World) (o : Obj) (C : Array Value) (T : TypeId) (j : Nat) : ((w.alloc o).alloc (.cells C T)).cell? ⟨w.heap.size + 1, j, none⟩ = C[j]? := by
  have h := cell_one (w.alloc o) C T j
  rwa [World.size_alloc] at h
set_option maxRecDepth 100000 in
set_option maxHeartbeats 2000000 in
theorem iTermsOf_any (x : Nt) (T : Option Addr) (c : Nat) (w : World) (hx : RdT w w.heap.size T c x.terms) (hok : ntOk x = true) :
    Calls Try.prog 139 #[ntV x.name x.kind x.num x.den T x.terms.length c x.sp x.sd x.sq] w (RetSh w x) := by
  rcases nt_kinds hok with ⟨h1, h2⟩ | ⟨h1, h2⟩ | ⟨h1, h2⟩
  · obtain ⟨d1, d2, n1, n2, _⟩ := fracOk_true.1 h2
    have HE := Lib.hid (fun W : World => expand_any x.num x.den W n1 n2 d1 d2)
    have HF : Hid (∀ (w' : World) (A : Option Addr) (n c : Nat), (termsOf x.num x.den).length = n → Rd (Value.int .i64) w' w'.heap.size A (termsOf x.num x.den) → Below w.heap.size w w' → RetSh w x (.returned (.tuple #[shV none 0 0 none 0 0 none 0 0 A n c true, .int .i64 0])) w') := fun w' A n c hn hw hb =>
      RetSh.fin_ (by rw [ntSo, if_pos h1]) (by rw [ntCd, if_pos h1]) hn hw (by have := terms_short h2; omega) hb
    have e1 : (x.kind == 1) = true := by simpa using h1
    clear hx hok h1 h2 d1 d2 n1 n2
    unfold ntV shV at *
    go_enter Try.func139, Try.ntmps139
    go_wp2_with fail
    refine (HE.out _).mono ?_
    rintro e w1 ⟨A1, c1, rfl, hw1, hb1⟩
    obtain ⟨hc1, hf1⟩ := bcell hb1
    have hy1 := hb1.size
    (try simp at hy1)
    have hz0 : w.heap.size < w1.heap.size := by omega
    have hz1 : w.heap.size + 1 < w1.heap.size := by omega
    have HB1 := Lib.hid (ext_trans (ext_alloc (ext1 w (.cells #[.string x.name, .int .i64 x.kind, .int .i64 x.num, .int .i64 x.den, .slice T x.terms.length c, .int .i64 x.sp, .int .i64 x.sd, .int .i64 x.sq] 73)) (.cells #[.slice none 0 0, .slice none 0 0, .slice none 0 0, .slice none 0 0, .bool false] 152)) hb1)
    have r : ∀ j v, [Value.slice none 0 0, .slice none 0 0, .slice none 0 0, .slice none 0 0, .bool false][j]? = some v → w1.cell? ⟨w.heap.size + 1, j, none⟩ = some v := fun j v hv => by
      rw [hc1 _ _ (by simp), cell_two_2, ← Array.getElem?_toList]
      exact hv
    have r0 := r 0 _ rfl
    have r1 := r 1 _ rfl
    have r2 := r 2 _ rfl
    have r3 := r 3 _ rfl
    have r4 := r 4 _ rfl
    clear r
    have HW : Hid (Wr (Value.int .i64) w1 (w.heap.size + 2) A1 (termsOf x.num x.den)) := by
      have h := hw1.more (B' := w.heap.size + 2) (by simp)
      exact h
    clear hw1
    go_wp2
    refine bodyPost_ret (v := .tuple #[.agg #[.slice none 0 0, .slice none 0 0, .slice none 0 0, .slice A1 (termsOf x.num x.den).length c1, .bool true], .int .i64 0]) (by simp [results, Try.results139, go_sem, r0, r1, r2, r3, r4]; done) rfl (HF.out _ A1 _ c1 rfl ?_ ?_)
    · refine Wr.rd (B := w.heap.size + 2) ?_
      iterate 5 (refine Wr.setLow ?_ (by simp) _)
      exact HW.out
    · iterate 5 (refine ext_set ?_ (by simp) _)
      exact HB1.out
  · obtain ⟨t1, t2, t3⟩ := termsB_bd h2
    have HE : Hid (∀ W : World, Below w.heap.size w W → Calls Try.prog 184 #[.slice T x.terms.length c] W (RetCap W (shT x.terms))) := fun W hb => shortForm_any T c x.terms W (hx.next hb).1 (by omega) hx.2 (fun y hy => by have := t3 y hy; omega)
    have HF : Hid (∀ (w' : World) (A : Option Addr) (n c : Nat), (shT x.terms).length = n → Rd (Value.int .i64) w' w'.heap.size A (shT x.terms) → Below w.heap.size w w' → RetSh w x (.returned (.tuple #[shV none 0 0 none 0 0 none 0 0 A n c true, .int .i64 0])) w') := fun w' A n c hn hw hb =>
      RetSh.fin_ (by rw [ntSo, if_neg (by omega), if_pos h1]) (by rw [ntCd, if_neg (by omega), if_pos h1]) hn hw (by have := shT_le x.terms; omega) hb
    have e1 : (x.kind == 1) = false := by simp; omega
    have e2 : (x.kind == 2) = true := by simpa using h1
    clear hx hok h1 h2 t1 t2 t3
    unfold ntV shV at *
    go_enter Try.func139, Try.ntmps139
    go_wp2_with fail
    refine (HE.out _ (ext_alloc (ext1 _ _) _)).mono ?_
    rintro e w1 ⟨A1, c1, rfl, hw1, _, hb1⟩
    obtain ⟨hc1, hf1⟩ := bcell hb1
    have hy1 := hb1.size
    (try simp at hy1)
    have hz0 : w.heap.size < w1.heap.size := by omega
    have hz1 : w.heap.size + 1 < w1.heap.size := by omega
    have HB1 := Lib.hid (ext_trans (ext_alloc (ext1 w (.cells #[.string x.name, .int .i64 x.kind, .int .i64 x.num, .int .i64 x.den, .slice T x.terms.length c, .int .i64 x.sp, .int .i64 x.sd, .int .i64 x.sq] 73)) (.cells #[.slice none 0 0, .slice none 0 0, .slice none 0 0, .slice none 0 0, .bool false] 152)) hb1)
    have r : ∀ j v, [Value.slice none 0 0, .slice none 0 0, .slice none 0 0, .slice none 0 0, .bool false][j]? = some v → w1.cell? ⟨w.heap.size + 1, j, none⟩ = some v := fun j v hv => by
      rw [hc1 _ _ (by simp), cell_two_2, ← Array.getElem?_toList]
      exact hv
    have r0 := r 0 _ rfl
    have r1 := r 1 _ rfl
    have r2 := r 2 _ rfl
    have r3 := r 3 _ rfl
    have r4 := r 4 _ rfl
    clear r
    have HW : Hid (Wr (Value.int .i64) w1 (w.heap.size + 2) A1 (shT x.terms)) := by
      have h := hw1.more (B' := w.heap.size + 2) (by simp)
      exact h
    clear hw1
    go_wp2
    refine bodyPost_ret (v := .tuple #[.agg #[.slice none 0 0, .slice none 0 0, .slice none 0 0, .slice A1 (shT x.terms).length c1, .bool true], .int .i64 0]) (by simp [results, Try.results139, go_sem, r0, r1, r2, r3, r4]; done) rfl (HF.out _ A1 _ c1 rfl ?_ ?_)
    · refine Wr.rd (B := w.heap.size + 2) ?_
      iterate 5 (refine Wr.setLow ?_ (by simp) _)
      exact HW.out
    · iterate 5 (refine ext_set ?_ (by simp) _)
      exact HB1.out
  · obtain ⟨i0, hi, hz0', hz1', hz2'⟩ := info_parts info64
    have HE := Lib.hid (fun W : World => iPeriodOf_any x.sp x.sd x.sq W)
    have hcn : (cyR (pdR (ntSd x))).length ≤ 1000 := by
      cases hR : pdR (ntSd x) with
      | none => simp [cyR]
      | some R => have := (pd_tmB hR).2.1; rw [hR] at this; exact this
    have HMK : Hid (∀ W : World, (Instr.makeSlice 30 (.int .i64 ((cyR (pdR (ntSd x))).length : Int)) (.int .i64 ((cyR (pdR (ntSd x))).length : Int))).run Try.prog W = .ok (.slice (some ⟨W.heap.size, 0, none⟩) (cyR (pdR (ntSd x))).length (cyR (pdR (ntSd x))).length) (W.alloc (.cells (madeCells #[.int .i64 0] (cyR (pdR (ntSd x))).length) 2))) := fun W => by
      have h := run_make (P := Try.prog) W 30 2 i0 _ Try.underlying30 hi hz0' .i64 .i64 ((cyR (pdR (ntSd x))).length : Int) ((cyR (pdR (ntSd x))).length : Int) (by omega) (by omega) (by rw [hz2']; omega) (by omega)
      rw [hz1'] at h
      simpa [Value.cells] using h
    have HF : Hid (∀ (w' : World) (A1 : Option Addr) (c1 : Nat) (A2 : Option Addr) (c2 : Nat) (A3 : Option Addr) (c3 : Nat), Rd (Value.int .i64) w' w'.heap.size A1 (hdR (pdR (ntSd x))) → Rd (Value.int .i64) w' w'.heap.size A2 (cyR (pdR (ntSd x))) → Rd (Value.int .i64) w' w'.heap.size A3 (List.replicate (cyR (pdR (ntSd x))).length 0) → Below w.heap.size w w' → RetSh w x (.returned (.tuple #[shV A1 (hdR (pdR (ntSd x))).length c1 A2 (cyR (pdR (ntSd x))).length c2 A3 (cyR (pdR (ntSd x))).length c3 none 0 0 false, .int .i64 (pdC (ntSd x))])) w') := fun w' A1 c1 A2 c2 A3 c3 ha hb hc hbel => by
      have k1 : ntSo x = ⟨hdR (pdR (ntSd x)), cyR (pdR (ntSd x)), List.replicate (cyR (pdR (ntSd x))).length 0⟩ := by rw [ntSo, if_neg (by omega), if_neg (by omega)]
      have k2 : ntCd x = pdC (ntSd x) := by rw [ntCd, if_neg (by omega), if_neg (by omega)]
      refine ⟨A1, _, c1, A2, _, c2, A3, _, c3, none, 0, 0, false, by rw [k2], fun h0 => .inr ⟨rfl, ntSo x, ?_, ?_, ?_, ?_, ntSo_tmB hok h0, fun _ => rfl⟩, hbel⟩
      · rw [k1]
      · rw [k1]
      · rw [k1]; simp
      · rw [k1]; exact ⟨ha, hb, hc⟩
    have e1 : (x.kind == 1) = false := by simp; omega
    have e2 : (x.kind == 2) = false := by simp; omega
    have HSD : Hid (ntSd x = (x.sp, x.sd, x.sq)) := rfl
    rw [← HSD.out] at HE
    clear hx hok h1 h2 hi HSD
    unfold RetPd at HE
    generalize pdR (ntSd x) = PR at *
    generalize pdC (ntSd x) = PC at *
    unfold ntV shV surdV at *
    go_enter Try.func139, Try.ntmps139
    go_wp2_with fail
    refine (HE.out _).mono ?_
    rintro e w1 ⟨A1, c1, A2, c2, rfl, hw1, hw2, _, hb1⟩
    obtain ⟨hc1, hf1⟩ := bcell hb1
    have hy1 := hb1.size
    (try simp at hy1)
    have hz0 : w.heap.size < w1.heap.size := by omega
    have hz1 : w.heap.size + 1 < w1.heap.size := by omega
    have HB1 := Lib.hid (ext_trans (ext_alloc (ext1 w (.cells #[.string x.name, .int .i64 x.kind, .int .i64 x.num, .int .i64 x.den, .slice T x.terms.length c, .int .i64 x.sp, .int .i64 x.sd, .int .i64 x.sq] 73)) (.cells #[.slice none 0 0, .slice none 0 0, .slice none 0 0, .slice none 0 0, .bool false] 152)) hb1)
    have r : ∀ j v, [Value.slice none 0 0, .slice none 0 0, .slice none 0 0, .slice none 0 0, .bool false][j]? = some v → w1.cell? ⟨w.heap.size + 1, j, none⟩ = some v := fun j v hv => by
      rw [hc1 _ _ (by simp), cell_two_2, ← Array.getElem?_toList]
      exact hv
    have r0 := r 0 _ rfl
    have r1 := r 1 _ rfl
    have r2 := r 2 _ rfl
    have r3 := r 3 _ rfl
    have r4 := r 4 _ rfl
    clear r
    have HW1 : Hid (Wr (Value.int .i64) w1 (w.heap.size + 2) A1 (hdR PR)) := by
      have h := hw1.more (B' := w.heap.size + 2) (by simp)
      exact h
    have HW2 : Hid (Wr (Value.int .i64) w1 (w.heap.size + 2) A2 (cyR PR)) := by
      have h := hw2.more (B' := w.heap.size + 2) (by simp)
      exact h
    clear hw1 hw2
    have HM := Lib.hid (made_wr w1 (cyR PR).length 2)
    have HW1 := Lib.hid (HW1.out.below (ext1 w1 (.cells (madeCells #[.int .i64 0] (cyR PR).length) 2)))
    have HW2 := Lib.hid (HW2.out.below (ext1 w1 (.cells (madeCells #[.int .i64 0] (cyR PR).length) 2)))
    have HB2 := Lib.hid (ext_alloc HB1.out (.cells (madeCells #[.int .i64 0] (cyR PR).length) 2))
    have s : ∀ (j : Nat) (v : Value), w1.cell? ⟨w.heap.size + 1, j, none⟩ = some v → (w1.alloc (.cells (madeCells #[.int .i64 0] (cyR PR).length) 2)).cell? ⟨w.heap.size + 1, j, none⟩ = some v := fun j v h => (World.cell?_alloc_lt _ _ _ hz1).trans h
    have s0 := s 0 _ r0
    have s1 := s 1 _ r1
    have s2 := s 2 _ r2
    have s3 := s 3 _ r3
    have s4 := s 4 _ r4
    have hz2 : w.heap.size + 2 ≤ w1.heap.size := by omega
    have f : ∀ j, (w1.alloc (.cells (madeCells #[.int .i64 0] (cyR PR).length) 2)).frozen? ⟨w.heap.size + 1, j, none⟩ = false := fun j => ((ext1 w1 (.cells (madeCells #[.int .i64 0] (cyR PR).length) 2)).frozen (p := ⟨w.heap.size + 1, j, none⟩) hz1).trans ((hf1 _ _ (by simp)).trans (World.frozen?_alloc_at _ _ _ _ (by simp)))
    have f0 := f 0
    have f1 := f 1
    have f2 := f 2
    have f3 := f 3
    have f4 := f 4
    have hmk := HMK.out w1
    clear s f HMK hc1 hf1 r0 r1 r2 r3 r4
    generalize w1.alloc (.cells (madeCells #[.int .i64 0] (cyR PR).length) 2) = W2 at *
    go_wp2
    refine bodyPost_ret (v := .tuple #[.agg #[.slice A1 (hdR PR).length c1, .slice A2 (cyR PR).length c2, .slice (some ⟨w1.heap.size, 0, none⟩) (cyR PR).length (cyR PR).length, .slice none 0 0, .bool false], .int .i64 PC]) (by simp [results, Try.results139, go_sem, s0, s1, s2, s3, s4]; done) rfl (HF.out _ A1 c1 A2 c2 _ _ ?_ ?_ ?_ ?_)
    · refine Wr.rd (B := w.heap.size + 2) ?_
      iterate 5 (refine Wr.setLow ?_ (by simp) _)
      exact HW1.out
    · refine Wr.rd (B := w.heap.size + 2) ?_
      iterate 5 (refine Wr.setLow ?_ (by simp) _)
      exact HW2.out
    · refine Wr.rd (B := w.heap.size + 2) ?_
      iterate 5 (refine Wr.setLow ?_ (by simp) _)
      exact HM.out.more hz2
    · iterate 5 (refine ext_set ?_ (by simp) _)
      exact HB2.out
end Go.Proofs.Ytgnifhegkjmgaaa
