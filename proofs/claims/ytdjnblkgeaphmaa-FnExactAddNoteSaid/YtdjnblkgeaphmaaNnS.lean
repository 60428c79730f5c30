/- The note with a name: the reference's walk. No condition but those that each theorem names. -/
import Derived.Test.YtdjnblkgeaphmaaNnW
namespace Go.Proofs.Ytdjnblkgeaphmaa
open Go.RowKit Go.Sort

theorem fndN_lt (s : ByteArray) : ∀ (xs : List Nt) (k : Nat), fndN s xs k < (k : Int) + (xs.length : Int) ∨ fndN s xs k = -1
  | [], k => .inr rfl
  | x :: xs, k => by
    unfold fndN
    split
    · left; simp; omega
    · have := fndN_lt s xs (k + 1)
      rcases this with h | h
      · left; simp only [List.length_cons]; omega
      · right; exact h
theorem fndN_bd (s : ByteArray) (xs : List Nt) : fndN s xs 0 < (xs.length : Int) ∨ fndN s xs 0 = -1 := by
  have := fndN_lt s xs 0
  omega
set_option maxRecDepth 100000 in
set_option maxHeartbeats 4000000 in
theorem sNoteNamed_any (A : Option Addr) (c : Nat) (xs : List Nt) (s : ByteArray) (w : World) (hr : RdNt w w.heap.size A xs) (hf : ∀ x ∈ xs, x.fits) (hl : xs.length ≤ 1048576) (ht : ∀ x ∈ xs, x.terms.length ≤ 1048576) :
    Calls Try.prog 11 #[.slice A xs.length c, .string s] w (RetNn w xs s) := by
  have HV : Hid (∀ W : World, Below w.heap.size w W → Calls Try.prog 75 #[.slice A xs.length c] W fun e w' => e = .returned (.bool (validNt xs)) ∧ Below W.heap.size W w') := fun W hb => l27Ok_any A c xs W (hr.next hb) hf (by unfold maxLen; omega)
  have HC : Hid (nnC xs s = if validNt xs = true then (if fndN s xs 0 < 0 then 3 else 0) else 1) := rfl
  unfold RetNn
  cases hv : validNt xs
  · rw [hv] at HV HC
    have h1 : nnC xs s = 1 := HC.out
    rw [h1]
    clear hv hr hf ht HC h1
    go_enter Try.func11, Try.ntmps11
    go_wp2_with fail
    refine (HV.out _ (ext1 _ _)).mono ?_
    rintro e w1 ⟨rfl, hb1⟩
    have HZ := Lib.hid ((BoxV.new w #[.string ByteArray.empty, .int .i64 0, .int .i64 0, .int .i64 0, .slice none 0 0, .int .i64 0, .int .i64 0, .int .i64 0] 30).next hb1)
    have r0 := HZ.out.at 0 _ rfl
    have r1 := HZ.out.at 1 _ rfl
    have r2 := HZ.out.at 2 _ rfl
    have r3 := HZ.out.at 3 _ rfl
    have r4 := HZ.out.at 4 _ rfl
    have r5 := HZ.out.at 5 _ rfl
    have r6 := HZ.out.at 6 _ rfl
    have r7 := HZ.out.at 7 _ rfl
    have f0 := HZ.out.f 0
    have f1 := HZ.out.f 1
    have f2 := HZ.out.f 2
    have f3 := HZ.out.f 3
    have f4 := HZ.out.f 4
    have f5 := HZ.out.f 5
    have f6 := HZ.out.f 6
    have f7 := HZ.out.f 7
    go_wp2
    refine bodyPost_ret (v := .tuple #[ntV ByteArray.empty 0 0 0 none 0 0 0 0 0, .int .i64 1]) (by simp [results, Try.results11, go_sem, r0, r1, r2, r3, r4, r5, r6, r7]; rfl) rfl ⟨fun h => absurd h (by decide), fun _ => rfl, ?_⟩
    iterate 8 (refine ext_set ?_ (Nat.le_refl _) _)
    exact ext_trans (ext1 _ _) hb1
  · have HP : Hid (∀ W : World, Below w.heap.size w W → Calls Try.prog 76 #[.slice A xs.length c, .string s] W fun e w' => e = .returned (.int .i64 (fndN s xs 0)) ∧ Below W.heap.size W w') := fun W hb => l27Find_any A c xs s W (hr.next hb) (by unfold maxLen; omega)
    have HQ := Lib.hid (fndN_bd s xs)
    have HR := Lib.hid hr
    have HCN := Lib.hid (fun (x : Nt) (b o : Nat) (T : Option Addr) (ct : Nat) (W : World) (h3 : NtAt W b o x T ct) (h : RdT W W.heap.size T ct x.terms) (h2 : x ∈ xs) => l27Own_any x b o T ct W h3 h (ht x h2))
    rw [hv] at HV HC
    clear hv hr hf ht
    go_enter Try.func11, Try.ntmps11
    go_wp2_with fail
    refine (HV.out _ (ext1 _ _)).mono ?_
    rintro e w1 ⟨rfl, hb1⟩
    have HZ := Lib.hid ((BoxV.new w #[.string ByteArray.empty, .int .i64 0, .int .i64 0, .int .i64 0, .slice none 0 0, .int .i64 0, .int .i64 0, .int .i64 0] 30).next hb1)
    have HB := Lib.hid (ext_trans (ext1 w (.cells #[.string ByteArray.empty, .int .i64 0, .int .i64 0, .int .i64 0, .slice none 0 0, .int .i64 0, .int .i64 0, .int .i64 0] 30)) hb1)
    clear hb1
    go_wp2_with fail
    refine (HP.out _ HB.out).mono ?_
    rintro e w2 ⟨rfl, hb2⟩
    have HZ := Lib.hid (HZ.out.next hb2)
    have HB := Lib.hid (ext_trans HB.out hb2)
    clear hb2
    by_cases hneg : fndN s xs 0 < 0
    · have h1 : nnC xs s = 3 := by rw [HC.out, if_pos trivial, if_pos hneg]
      have H1 := Lib.hid h1
      clear h1
      generalize fndN s xs 0 = R at *
      have r0 := HZ.out.at 0 _ rfl
      have r1 := HZ.out.at 1 _ rfl
      have r2 := HZ.out.at 2 _ rfl
      have r3 := HZ.out.at 3 _ rfl
      have r4 := HZ.out.at 4 _ rfl
      have r5 := HZ.out.at 5 _ rfl
      have r6 := HZ.out.at 6 _ rfl
      have r7 := HZ.out.at 7 _ rfl
      have f0 := HZ.out.f 0
      have f1 := HZ.out.f 1
      have f2 := HZ.out.f 2
      have f3 := HZ.out.f 3
      have f4 := HZ.out.f 4
      have f5 := HZ.out.f 5
      have f6 := HZ.out.f 6
      have f7 := HZ.out.f 7
      go_wp2
      refine bodyPost_ret (v := .tuple #[ntV ByteArray.empty 0 0 0 none 0 0 0 0 0, .int .i64 3]) (by simp [results, Try.results11, go_sem, r0, r1, r2, r3, r4, r5, r6, r7]; rfl) rfl ⟨fun h => absurd h (by rw [H1.out]; decide), fun _ => by rw [H1.out], ?_⟩
      iterate 8 (refine ext_set ?_ (Nat.le_refl _) _)
      exact HB.out
    · have h1 : nnC xs s = 0 := by rw [HC.out, if_pos trivial, if_neg hneg]
      have H1 := Lib.hid h1
      obtain ⟨k, hkR⟩ : ∃ k : Nat, fndN s xs 0 = (k : Int) := ⟨(fndN s xs 0).toNat, by omega⟩
      have hkl : k < xs.length := by have := HQ.out; rw [hkR] at this; omega
      have HF := Lib.hid hkR
      rw [hkR] at hneg ⊢
      clear h1 hkR
      obtain ⟨b, off, rfl, hb, hc⟩ := (HR.out.next HB.out) (by omega)
      obtain ⟨x, hxk⟩ : ∃ x, xs[k]? = some x := ⟨_, List.getElem?_eq_getElem hkl⟩
      obtain ⟨T, ct, cr, cT⟩ := hc k x hxk
      obtain ⟨c0, c1, c2, c3, c4, c5, c6, c7⟩ := cr.nt
      have i0 : (0 : Int) ≤ (k : Int) := by omega
      have i1 : (k : Int) < (xs.length : Int) := by omega
      have HX := Lib.hid hxk
      have HC2 := Lib.hid (HCN.out x b (off + k * 8) T ct w2 cr.nt cT (List.mem_of_getElem? hxk))
      unfold RetNt at HC2
      clear hc hxk cr cT
      go_wp2_with fail
      refine HC2.out.mono ?_
      rintro e w3 ⟨B3, d3, rfl, hw3, hb3⟩
      have HLT := Lib.hid HZ.out.lt
      have HZ := Lib.hid (HZ.out.next hb3)
      have HW := Lib.hid hw3
      have HB0 := Lib.hid HB.out.size
      have HB := Lib.hid (ext_trans HB.out hb3)
      clear hb3 hw3 c0 c1 c2 c3 c4 c5 c6 c7
      have r0 := HZ.out.at 0 _ rfl
      have r1 := HZ.out.at 1 _ rfl
      have r2 := HZ.out.at 2 _ rfl
      have r3 := HZ.out.at 3 _ rfl
      have r4 := HZ.out.at 4 _ rfl
      have r5 := HZ.out.at 5 _ rfl
      have r6 := HZ.out.at 6 _ rfl
      have r7 := HZ.out.at 7 _ rfl
      have f0 := HZ.out.f 0
      have f1 := HZ.out.f 1
      have f2 := HZ.out.f 2
      have f3 := HZ.out.f 3
      have f4 := HZ.out.f 4
      have f5 := HZ.out.f 5
      have f6 := HZ.out.f 6
      have f7 := HZ.out.f 7
      go_wp2
      refine bodyPost_ret (v := .tuple #[ntV x.name x.kind x.num x.den B3 x.terms.length d3 x.sp x.sd x.sq, .int .i64 0]) (by simp [results, Try.results11, go_sem, r0, r1, r2, r3, r4, r5, r6, r7]) rfl ⟨fun _ => ⟨x, B3, d3, by rw [HF.out]; exact HX.out, rfl, ?_⟩, fun h => absurd H1.out h, ?_⟩
      · refine ⟨Wr.more (B := w2.heap.size) ?_ HB0.out, HW.out.2⟩
        iterate 8 (refine Wr.setLow ?_ HLT.out _)
        exact HW.out.1
      · iterate 8 (refine ext_set ?_ (Nat.le_refl _) _)
        exact HB.out
end Go.Proofs.Ytdjnblkgeaphmaa
