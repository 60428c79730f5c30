/- The statements' own copies of slices of notes lie in blocks of their own. No condition but those that each theorem names. -/
import Derived.Test.YtdjnblkgeaphmaaMarkNtP
namespace Go.Proofs.Ytdjnblkgeaphmaa
open Go.RowKit Go.Sort

/-- What a copy of notes holds up to k, and who owns which block. -/
def CpNd (w : World) (h : Nat) (xs : List Nt) (k : Nat) (own : Nat → Nat) (W : World) : Prop :=
  (∀ j x, j < k → xs[j]? = some x → ∃ T c, RowAt W h (j * 8) (ntC x T c) ∧ WrT W (h + 1) T c x.terms ∧ OwnT own W.heap.size (j + 1) T x.terms.length) ∧
  (∀ j, j < xs.length * 8 → ∃ v, W.cell? ⟨h, j, none⟩ = some v) ∧ (∀ j, W.frozen? ⟨h, j, none⟩ = false) ∧ Below w.heap.size w W ∧ h < W.heap.size ∧ own h = 0
theorem CpNd.step {w W W' : World} {h : Nat} {xs : List Nt} {k : Nat} {x : Nt} {T : Option Addr} {c : Nat} {own : Nat → Nat} (hc : CpNd w h xs k own W) (hw : w.heap.size ≤ h) (hk : k < xs.length) (hx : xs[k]? = some x) (hb : Below W.heap.size W W') (hT : WrT W' W.heap.size T c x.terms) :
    CpNd w h xs (k + 1) (fun t => if W.heap.size ≤ t then k + 1 else own t) (putL h (k * 8) 0 (ntC x T c) W') := by
  obtain ⟨h1, h2, h3, h4, h5, h6⟩ := hc
  have hc0 : CpNt w h xs k W := ⟨fun j y hj hy => by
    obtain ⟨T', c', e1, e2, _⟩ := h1 j y hj hy
    exact ⟨T', c', e1, e2⟩, h2, h3, h4, h5⟩
  have h5' : h < W'.heap.size := Nat.lt_of_lt_of_le h5 hb.size
  have cell : ∀ j, W'.cell? ⟨h, j, none⟩ = W.cell? ⟨h, j, none⟩ := fun j => hb.cell (p := ⟨h, j, none⟩) h5
  have hlen : (ntC x T c).length = 8 := rfl
  have far : ∀ i, (i < k * 8 ∨ k * 8 + 8 ≤ i) → (putL h (k * 8) 0 (ntC x T c) W').cell? ⟨h, i, none⟩ = W.cell? ⟨h, i, none⟩ := fun i hi =>
    (putL_other h (k * 8) 0 _ W' (fun j hj => by rw [hlen] at hj; intro e; injection e; omega)).trans (cell i)
  have near : ∀ j v, (ntC x T c)[j]? = some v → (putL h (k * 8) 0 (ntC x T c) W').cell? ⟨h, k * 8 + j, none⟩ = some v := fun j v hv => by
    have := putL_same h (k * 8) 0 (ntC x T c) W' (fun m hm => by
      rw [hlen] at hm
      obtain ⟨u, hu⟩ := h2 (k * 8 + 0 + m) (by omega)
      exact ⟨u, (cell _).trans hu⟩) j v hv
    rwa [Nat.add_zero] at this
  obtain ⟨_, g2, g3, g4, g5⟩ := CpNt.step hc0 hw hk hx hb hT
  refine ⟨fun j y hj hy => ?_, g2, g3, g4, g5, by show (if _ then _ else _) = _; rw [if_neg (by omega)]; exact h6⟩
  rcases Nat.lt_or_ge j k with g | g
  · obtain ⟨T', c', e1, e3, e4⟩ := h1 j y g hy
    refine ⟨T', c', fun i v hv => ?_, ⟨putL_wr h _ (by omega) 0 _ (e3.1.below hb), e3.2⟩, fun t o i e hn => ?_⟩
    · have hi : i < 8 := (List.getElem?_eq_some_iff.1 hv).1
      rw [far _ (.inl (by omega))]
      exact e1 i v hv
    · obtain ⟨q1, q2⟩ := e4 t o i e hn
      exact ⟨by show (if _ then _ else _) = _; rw [if_neg (by omega)]; exact q1, by rw [putL_size]; have := hb.size; omega⟩
  · obtain rfl : j = k := by omega
    obtain rfl := Option.some.inj (hx.symm.trans hy)
    refine ⟨T, c, near, ⟨putL_wr h _ (by omega) 0 _ (hT.1.more (by omega)), hT.2⟩, fun t o i e hn => ?_⟩
    obtain ⟨tb, to, e2, q1, q2, _⟩ := hT.1 hn
    rw [e] at e2
    injection e2 with e2
    injection e2 with e2
    subst e2
    exact ⟨by show (if _ then _ else _) = _; rw [if_pos q1], by rw [putL_size]; exact q2⟩
set_option maxHeartbeats 1000000 in
theorem toNoteS_some (A : Option Addr) (c : Nat) (xs : List Nt) (w : World) (hr : RdNt w w.heap.size A xs) (hf : ∀ x ∈ xs, x.terms.length ≤ 1048576) (hl : xs.length ≤ 1048576) :
    Calls Try.prog 12 #[.slice A xs.length c] w fun e w' => ∃ g : Nat, e = .returned (.slice (some ⟨g, 0, none⟩) xs.length xs.length) ∧ WrNd w' w.heap.size w'.heap.size (some ⟨g, 0, none⟩) xs ∧ Below w.heap.size w w' := by
  obtain ⟨i0, hi, hz0, hz1, hz2⟩ := info_parts infoNt
  have HFT := Lib.hid hf
  clear hf
  have hmk : ∀ W : World, (Instr.makeSlice 33 (.int .i64 (xs.length : Int)) (.int .i64 (xs.length : Int))).run Try.prog W = .ok (.slice (some ⟨W.heap.size, 0, none⟩) xs.length xs.length) (W.alloc (.cells (madeCells #[.string ByteArray.empty, .int .i64 0, .int .i64 0, .int .i64 0, .slice none 0 0, .int .i64 0, .int .i64 0, .int .i64 0] (xs.length * 8)) 30)) := fun W => by
    have h := run_make (P := Try.prog) W 33 30 i0 _ Try.underlying33 hi hz0 .i64 .i64 (xs.length : Int) (xs.length : Int) (by omega) (by omega) (by rw [hz2]; omega) (by omega)
    rw [hz1] at h
    simpa [Value.cells] using h
  go_enter Try.func12, Try.ntmps12
  go_wp2_with fail
  have hms : (madeCells #[.string ByteArray.empty, .int .i64 0, .int .i64 0, .int .i64 0, .slice none 0 0, .int .i64 0, .int .i64 0, .int .i64 0] (xs.length * 8)).size = xs.length * 8 := size_madeCells _ _
  obtain ⟨W, hW, hC⟩ : ∃ W, W = w.alloc (.cells (madeCells #[.string ByteArray.empty, .int .i64 0, .int .i64 0, .int .i64 0, .slice none 0 0, .int .i64 0, .int .i64 0, .int .i64 0] (xs.length * 8)) 30) ∧ CpNd w w.heap.size xs 0 (fun _ => 0) W :=
    ⟨_, rfl, fun _ _ h => absurd h (by omega), fun j hj => madeCell (by rw [hms]; exact hj), fun j => World.frozen?_alloc_at _ _ _ _ rfl, ext1 _ _, by simp, rfl⟩
  rw [← hW]
  clear hW hms
  have HC := Lib.hid hC
  clear hC hmk
  go_loopw [4] (fun t wr => ∃ (i : Nat) (own : Nat → Nat), i ≤ xs.length ∧ t = .int .i64 i ∧ Hid (CpNd w w.heap.size xs i own wr)) (fun t _ => xs.length - (intOf t).toNat)
  case atStart => exact ⟨0, _, by omega, rfl, HC.out⟩
  case round =>
    obtain ⟨i, own, hi', rfl, HR⟩ := hrel
    clear HC
    have hbe := HR.out.2.2.2.1
    have hzr := HR.out.2.2.2.2.1
    by_cases hlt : i < xs.length
    · obtain ⟨b, off, rfl, hb, hc⟩ := (hr.next hbe) (by omega)
      obtain ⟨x, hxi⟩ : ∃ x, xs[i]? = some x := ⟨_, List.getElem?_eq_getElem hlt⟩
      obtain ⟨T, ct, cr, cT⟩ := hc i x hxi
      obtain ⟨c0, c1, c2, c3, c4, c5, c6, c7⟩ := cr.nt
      have HX := Lib.hid hxi
      have HTN := Lib.hid (toNote_any x T ct wr cT.1 (HFT.out x (List.mem_of_getElem? hxi)))
      have hcl := HR.out.2.1
      have hfr := HR.out.2.2.1
      obtain ⟨v0, hv0⟩ := hcl (i * 8) (by omega)
      obtain ⟨v1, hv1⟩ := hcl (i * 8 + 1) (by omega)
      obtain ⟨v2, hv2⟩ := hcl (i * 8 + 2) (by omega)
      obtain ⟨v3, hv3⟩ := hcl (i * 8 + 3) (by omega)
      obtain ⟨v4, hv4⟩ := hcl (i * 8 + 4) (by omega)
      obtain ⟨v5, hv5⟩ := hcl (i * 8 + 5) (by omega)
      obtain ⟨v6, hv6⟩ := hcl (i * 8 + 6) (by omega)
      obtain ⟨v7, hv7⟩ := hcl (i * 8 + 7) (by omega)
      have HV := Lib.hid (And.intro hv0 (And.intro hv1 (And.intro hv2 (And.intro hv3 (And.intro hv4 (And.intro hv5 (And.intro hv6 hv7)))))))
      have HFR := Lib.hid hfr
      clear hc hxi cr cT hcl hfr hv0 hv1 hv2 hv3 hv4 hv5 hv6 hv7
      have i0 : (0 : Int) ≤ (i : Int) := by omega
      have i1 : (i : Int) < (xs.length : Int) := by omega
      go_wp2_with fail
      refine HTN.out.mono ?_
      rintro e w2 ⟨B, d, rfl, hw2, hb2⟩
      have cl : ∀ j v, wr.cell? ⟨w.heap.size, j, none⟩ = some v → w2.cell? ⟨w.heap.size, j, none⟩ = some v := fun j v h => (hb2.cell (p := ⟨w.heap.size, j, none⟩) hzr).trans h
      have fl : ∀ j, w2.frozen? ⟨w.heap.size, j, none⟩ = false := fun j => (hb2.frozen (p := ⟨w.heap.size, j, none⟩) hzr).trans (HFR.out j)
      obtain ⟨u0, u1, u2, u3, u4, u5, u6, u7⟩ := HV.out
      have hv0 := cl _ _ u0
      have hv1 := cl _ _ u1
      have hv2 := cl _ _ u2
      have hv3 := cl _ _ u3
      have hv4 := cl _ _ u4
      have hv5 := cl _ _ u5
      have hv6 := cl _ _ u6
      have hv7 := cl _ _ u7
      clear u0 u1 u2 u3 u4 u5 u6 u7 cl c0 c1 c2 c3 c4 c5 c6 c7
      go_wp2
      go_roundw
      case rel => exact ⟨i + 1, _, by omega, by go_num, by rw [putL_nt]; exact CpNd.step HR.out (Nat.le_refl _) hlt HX.out hb2 hw2⟩
      case measure => simp [intOf]; omega
    · go_wp2
      go_ret
      obtain ⟨r1, r2, r3, r4, r5, r6⟩ := HR.out
      refine ⟨_, rfl, ⟨Nat.le_refl _, fun _ => ⟨w.heap.size, 0, own, rfl, Nat.le_refl _, r5, r3, r6, fun j x hx => ?_⟩⟩, r4⟩
      obtain ⟨T, ct, e1, e3, e4⟩ := r1 j x (by have := (List.getElem?_eq_some_iff.1 hx).1; omega) hx
      rw [Nat.zero_add]
      exact ⟨T, ct, e1, e3.more (by omega), e4⟩
theorem toNoteS_cap (A : Option Addr) (c : Nat) (xs : List Nt) (w : World) (hr : RdNt w w.heap.size A xs) (hf : ∀ x ∈ xs, x.terms.length ≤ 1048576) (hl : xs.length ≤ 1048576) :
    Calls Try.prog 12 #[.slice A xs.length c] w fun e w' => ∃ B, e = .returned (.slice B xs.length xs.length) ∧ WrNd w' w.heap.size w'.heap.size B xs ∧ Below w.heap.size w w' :=
  (toNoteS_some A c xs w hr hf hl).mono fun _ _ ⟨_, h1, h2⟩ => ⟨_, h1, h2⟩
theorem toNoteS_nd (A : Option Addr) (c : Nat) (xs : List Nt) (w : World) (hr : RdNt w w.heap.size A xs) (hf : ∀ x ∈ xs, x.terms.length ≤ 1048576) (hl : xs.length ≤ 1048576) :
    Calls Try.prog 12 #[.slice A xs.length c] w fun e w' => ∃ B d, e = .returned (.slice B xs.length d) ∧ WrNd w' w.heap.size w'.heap.size B xs ∧ Below w.heap.size w w' :=
  (toNoteS_cap A c xs w hr hf hl).mono fun _ _ ⟨B, h1, h2⟩ => ⟨B, _, h1, h2⟩
end Go.Proofs.Ytdjnblkgeaphmaa
