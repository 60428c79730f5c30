/- Parts of the proof, merged: ConvW NameW. No condition but those that each theorem names. -/
import Derived.Test.YtjgafjbccfjojaaGreatMgAB
import Derived.Deep.RegionHeld3
import Derived.Deep.RegionWith
import Derived.Test.YtjgafjbccfjojaaGreatMgAA
namespace Go.Proofs.YtjgafjbccfjojaaGreat
open Go.RowKit Go.Sort
/-- A slice of structs of s integers is a row of integers. -/
theorem Wr.of_ownS {α : Type} {enc : α → Value} {w : World} {base s : Nat} {e : TypeId} {v : Value} {n : Nat} {xs : List α} (h : w.ownsRow base e s v n (xs.map enc)) : xs.length = n * s ∧ ∃ A c, v = .slice A n c ∧ Wr enc w base A xs := by
  have hn : xs.length = n * s := by have := h.1; simpa using this
  refine ⟨hn, ?_⟩
  rcases h.2 with ⟨rfl, h0⟩ | ⟨g, cap, cur, rfl, hg, hh, hc, hm, hsz, ht⟩
  · exact ⟨none, 0, by rw [h0], fun hp => by
      exfalso
      rw [hn, h0] at hp
      simp at hp⟩
  · refine ⟨_, _, rfl, fun _ => ⟨g, 0, rfl, hg, ?_, fun j x hx => ?_, fun j => ?_⟩⟩
    · rcases Nat.lt_or_ge g w.heap.size with h1 | h1
      · exact h1
      · rw [Array.getElem?_eq_none h1] at hh; cases hh
    · have hx' : (xs.map enc)[j]? = some (enc x) := by rw [List.getElem?_map, hx]; rfl
      have := h.cells (g := g) rfl j _ hx'
      have ea : (⟨g, 0, none⟩ : Addr).add j = ⟨g, 0 + j, none⟩ := by
        unfold Addr.add
        by_cases hj : j = 0 <;> simp [hj]
      rw [ea] at this
      exact this
    · simp [World.frozen?, hh]
def frL (ps : List (Int × Int)) : List Int := ps.flatMap fun p => [p.1, p.2]
theorem frL_length (ps : List (Int × Int)) : (frL ps).length = ps.length * 2 := by
  induction ps with
  | nil => rfl
  | cons p ps ih => simp only [frL, List.flatMap_cons, List.length_append, List.length_cons, List.length_nil] at *; omega
theorem frL_snoc (ps : List (Int × Int)) (p q : Int) : frL (ps ++ [(p, q)]) = frL ps ++ [p, q] := by simp [frL]
theorem frL_get {ps : List (Int × Int)} {j : Nat} {p : Int × Int} (h : ps[j]? = some p) : (frL ps)[j * 2]? = some p.1 ∧ (frL ps)[j * 2 + 1]? = some p.2 := by
  induction ps generalizing j with
  | nil => simp at h
  | cons a ps ih =>
    cases j with
    | zero =>
      simp at h
      subst h
      simp [frL]
    | succ j =>
      have := ih (j := j) (by simpa using h)
      have e1 : (j + 1) * 2 = j * 2 + 1 + 1 := by omega
      simp only [frL, List.flatMap_cons] at *
      rw [e1]
      exact this
/-- The convergents that follow; none if one is no fraction. -/
def cvG : List Int → Int → Int → Int → Int → Option (List (Int × Int))
  | [], _, _, _, _ => some []
  | t :: ts, p, q, p0, q0 => if fracOk (t * p + p0) (t * q + q0) = true then (cvG ts (t * p + p0) (t * q + q0) p q).map ((t * p + p0, t * q + q0) :: ·) else none
def convs (ts : List Int) : Option (List (Int × Int)) := cvG ts 1 0 0 1
theorem cvG_step {ts : List Int} {k : Nat} {t p q p0 q0 : Int} (h : ts[k]? = some t) : cvG (ts.drop k) p q p0 q0 = if fracOk (t * p + p0) (t * q + q0) = true then (cvG (ts.drop (k + 1)) (t * p + p0) (t * q + q0) p q).map ((t * p + p0, t * q + q0) :: ·) else none := by
  obtain ⟨h1, h2⟩ := List.getElem?_eq_some_iff.1 h
  rw [List.drop_eq_getElem_cons h1, h2]; rfl
theorem cvG_end {ts : List Int} {k : Nat} {p q p0 q0 : Int} (h : ¬ k < ts.length) : cvG (ts.drop k) p q p0 q0 = some [] := by
  rw [List.drop_eq_nil_of_le (by omega)]; rfl
def bil (n : Int) : Prop := -1000000000 ≤ n ∧ n ≤ 1000000000
/-- What a call returns that makes a slice of fractions, and whether all went well. -/
def RetCv (w : World) (R : Option (List (Int × Int))) (e : Ending) (w' : World) : Prop :=
  ∃ A c, e = .returned (.tuple #[.slice A (R.getD []).length c, .bool R.isSome]) ∧ Wr (Value.int .i64) w' w.heap.size A (frL (R.getD [])) ∧ Below w.heap.size w w'
theorem RetCv.none_ {w w' : World} (h : Below w.heap.size w w') : RetCv w none (.returned (.tuple #[.slice none 0 0, .bool false])) w' := ⟨none, 0, rfl, fun h => absurd h (by simp [frL]), h⟩
/-- What holds of a list of fractions on its way. -/
def OutF (w : World) (base : Nat) (out : List (Int × Int)) (v : Value) (wr : World) : Prop :=
  wr.ownsRow base 34 2 v out.length ((frL out).map (Value.int .i64)) ∧ Below w.heap.size w wr ∧ base ≤ wr.heap.size
theorem OutF.next {w : World} {base : Nat} {out : List (Int × Int)} {v : Value} {wr w2 : World} (h : OutF w base out v wr) (hb : Below wr.heap.size wr w2) : OutF w base out v w2 :=
  ⟨own_below h.1 hb, ext_trans h.2.1 hb, Nat.le_trans h.2.2 hb.size⟩
theorem OutF.push {w : World} {base : Nat} {out : List (Int × Int)} {v : Value} {wr : World} (h : OutF w base out v wr) (hbase : w.heap.size ≤ base) {p q : Int} (v' : Value) (w3 : World) {o : Obj}
    (hown3 : w3.ownsRow base 34 2 v' (out.length + 1) ((frL out).map (Value.int .i64) ++ [.int .i64 p, .int .i64 q])) (hg : (wr.alloc o).grownBy w3 v.ownBlock) : OutF w base (out ++ [(p, q)]) v' w3 := by
  obtain ⟨hown, hbel, hsz⟩ := h
  refine ⟨by simpa [frL_snoc] using hown3, below_grown (ext_alloc hbel o) (hown.alloc o) hbase hg, ?_⟩
  have := hg.size
  simp at this
  omega
theorem infoFr : (Tryz.prog.info? 34).map (fun i => (i.zero, i.size, i.bytes)) = some (some (fracV 0 0), 2, 16) := by kernel_rfl
/-- The cells of a new block, one by one. -/
theorem news_row (w : World) {C : Array Value} (T : TypeId) (vs : List Value) (h : C.toList = vs) : ∀ j u, vs[j]? = some u → (w.alloc (.cells C T)).cell? ((⟨w.heap.size, 0, none⟩ : Addr).add j) = some u := fun j u hu => by
  have ea : (⟨w.heap.size, 0, none⟩ : Addr).add j = ⟨w.heap.size, 0 + j, none⟩ := by
    unfold Addr.add
    by_cases hj : j = 0 <;> simp [hj]
  rw [ea, Nat.zero_add, cell_one, ← Array.getElem?_toList, h]
  exact hu
theorem map_snoc (out : List (Int × Int)) (x : Int × Int) (o : Option (List (Int × Int))) : o.map ((out ++ [x]) ++ ·) = (o.map (x :: ·)).map (out ++ ·) := by cases o <;> simp
set_option maxRecDepth 100000 in
set_option maxHeartbeats 2000000 in
theorem convergents_any (A : Option Addr) (c : Nat) (ts : List Int) (w : World) (hx : Rd (Value.int .i64) w w.heap.size A ts) (hl : ts.length ≤ 1000000000) (hb : ∀ t ∈ ts, bil t) :
    Calls Tryz.prog 75 #[.slice A ts.length c] w (RetCv w (convs ts)) := by
  obtain ⟨ti, hi, hz0, hz1, hz2⟩ := info_parts infoFr
  have HI := Lib.hid hi
  have HB := Lib.hid hb
  clear hb
  obtain ⟨R, hR⟩ : ∃ R, convs ts = R := ⟨_, rfl⟩
  rw [hR]
  have HR : Hid (cvG (ts.drop 0) 1 0 0 1 = R) := hR
  clear hR
  have hmk : ∀ W : World, (Instr.makeSlice 72 (.int .i64 0) (.int .i64 (ts.length : Int))).run Tryz.prog W = .ok (.slice (some ⟨W.heap.size, 0, none⟩) 0 ts.length) (W.alloc (.cells (madeCells #[.int .i64 0, .int .i64 0] (ts.length * 2)) 34)) := fun W => by
    have h := run_make (P := Tryz.prog) W 72 34 ti _ Tryz.underlying72 hi hz0 .i64 .i64 0 (ts.length : Int) (by omega) (by omega) (by rw [hz2]; omega) (by omega)
    rw [hz1] at h
    simpa [Value.cells] using h
  go_enter Tryz.func75, Tryz.ntmps75
  go_wp2_with fail
  have hV0 : OutF w w.heap.size [] (.slice (some ⟨w.heap.size, 0, none⟩) 0 ts.length) (w.alloc (.cells (madeCells #[.int .i64 0, .int .i64 0] (ts.length * 2)) 34)) := by
    refine ⟨?_, ext1 _ _, by simp⟩
    exact World.ownsRow_made (base := w.heap.size) (size := 2) w _ ts.length (Nat.le_refl _) (by unfold maxLen; omega) (size_madeCells _ _)
  generalize w.alloc (.cells (madeCells #[.int .i64 0, .int .i64 0] (ts.length * 2)) 34) = W0 at *
  have HV0 := Lib.hid hV0
  clear hV0 hmk
  go_loopw [17, 5, 6, 7, 8, 4] (fun s a b x y v wr => ∃ (k : Nat) (p q p0 q0 : Int) (out : List (Int × Int)), k ≤ ts.length ∧ s = .int .i64 k ∧ a = .int .i64 p ∧ b = .int .i64 q ∧ x = .int .i64 p0 ∧ y = .int .i64 q0 ∧ Hid (bil p ∧ bil q ∧ bil p0 ∧ bil q0) ∧ out.length ≤ k ∧ Hid ((cvG (ts.drop k) p q p0 q0).map (out ++ ·) = R) ∧ Hid (OutF w w.heap.size out v wr)) (fun s _ _ _ _ _ _ => ts.length - (intOf s).toNat)
  case atStart => exact ⟨0, 1, 0, 0, 1, [], by omega, rfl, rfl, rfl, rfl, rfl, ⟨⟨by omega, by omega⟩, ⟨by omega, by omega⟩, ⟨by omega, by omega⟩, ⟨by omega, by omega⟩⟩, by simp, by unfold Hid; rw [← HR.out]; simp, HV0.out⟩
  case round =>
    obtain ⟨k, p, q, p0, q0, out, hk, rfl, rfl, rfl, rfl, rfl, HBD, hok, HC, HV⟩ := hrel
    clear HV0 HR
    have hbe := HV.out.2.1
    by_cases hlt : k < ts.length
    · obtain ⟨b, off, rfl, hb, hc⟩ := ((hx.below hbe).more hbe.size) (by omega)
      obtain ⟨t, htk⟩ : ∃ t, ts[k]? = some t := ⟨_, List.getElem?_eq_getElem hlt⟩
      have c1 := hc k t htk
      obtain ⟨t1, t2⟩ := HB.out t (List.mem_of_getElem? htk)
      obtain ⟨⟨p1, p2⟩, ⟨q1, q2⟩, ⟨r1, r2⟩, ⟨s1, s2⟩⟩ := HBD.out
      have HS := Lib.hid (cvG_step (p := p) (q := q) (p0 := p0) (q0 := q0) htk)
      obtain ⟨u1, u2⟩ := mul_bd (x := t) (y := p) (M := 1000000000) (N := 1000000000) (by omega) t2 (by omega) p2 t1 p1
      obtain ⟨u3, u4⟩ := mul_bd (x := t) (y := q) (M := 1000000000) (N := 1000000000) (by omega) t2 (by omega) q2 t1 q1
      have i0 : (0 : Int) ≤ (k : Int) := by omega
      have i1 : (k : Int) < (ts.length : Int) := by omega
      have HVF : Hid (∀ W, Calls Tryz.prog 36 #[fracV (t * p + p0) (t * q + q0)] W fun e w' => e = .returned (.bool (fracOk (t * p + p0) (t * q + q0))) ∧ Below W.heap.size W w') := fun W => ValidFraction_any _ _ W
      clear hc htk
      cases hfo : fracOk (t * p + p0) (t * q + q0)
      · rw [hfo] at HVF
        have HE : Hid (R = none) := by
          have h := HC.out
          rw [HS.out, hfo] at h
          exact h.symm
        clear hfo
        generalize hpp : t * p + p0 = np at *
        generalize hqq : t * q + q0 = nq at *
        have HP := Lib.hid hpp
        have HQ := Lib.hid hqq
        clear HC HS hpp hqq
        unfold fracV at HVF
        go_wp2_with fail
        rw [HP.out, HQ.out]
        refine (HVF.out _).mono ?_
        rintro e w2 ⟨rfl, hb2⟩
        go_wp2
        go_ret2
        rw [HE.out]
        exact RetCv.none_ (ext_trans (ext_alloc hbe _) hb2)
      · rw [hfo] at HVF
        obtain ⟨f1, f2, f3, f4, _⟩ := fracOk_true.1 hfo
        have HN : Hid ((cvG (ts.drop (k + 1)) (t * p + p0) (t * q + q0) p q).map ((out ++ [(t * p + p0, t * q + q0)]) ++ ·) = R) := by
          have h := HC.out
          rw [HS.out, hfo, if_pos rfl] at h
          unfold Hid
          rw [map_snoc]
          exact h
        clear hfo
        generalize hpp : t * p + p0 = np at *
        generalize hqq : t * q + q0 = nq at *
        have HP := Lib.hid hpp
        have HQ := Lib.hid hqq
        clear HC HS hpp hqq
        unfold fracV at HVF
        go_wp2_with fail
        rw [HP.out, HQ.out]
        refine (HVF.out _).mono ?_
        rintro e w2 ⟨rfl, hb2⟩
        have m0 : w2.cell? ⟨wr.heap.size, 0, none⟩ = some (.int .i64 np) := (hb2.cell (p := ⟨wr.heap.size, 0, none⟩) (by simp)).trans (by rw [cell_one]; rfl)
        have m1 : w2.cell? ⟨wr.heap.size, 1, none⟩ = some (.int .i64 nq) := (hb2.cell (p := ⟨wr.heap.size, 1, none⟩) (by simp)).trans (by rw [cell_one]; rfl)
        have HV2 : Hid (OutF w w.heap.size out _ w2) := (OutF.next HV.out (ext_trans (ext1 wr _) hb2))
        have hown := HV2.out.1
        have hbz := HV2.out.2.2
        go_wp2_with (at_builtin; refine wpList_append_own _ rfl _ _ 72 rfl w.heap.size 34 ti (fracV 0 0) 2 16 Tryz.underlying72 HI.out hz0 hz1 hz2 rfl (by decide) _ _ _ rfl (hown.alloc _) ⟨w2.heap.size, 0, none⟩ 1 1 [.int .i64 np, .int .i64 nq] rfl rfl ?c1 ?c2 ?c3 ?c4 ?c5 ?_)
        case c1 => exact news_row w2 _ _ rfl
        case c2 => simp [Value.oneCell']
        case c3 => unfold maxLen; omega
        case c4 => omega
        case c5 => simp; omega
        intro v' w3 hown3 hgrow _
        have HV3 := OutF.push HV2.out (Nat.le_refl _) _ _ hown3 hgrow
        clear hown3 hgrow hown
        go_wp2
        go_roundw
        case rel => exact ⟨k + 1, np, nq, p, q, _, by omega, by go_num, rfl, rfl, rfl, rfl, ⟨⟨by omega, by omega⟩, ⟨by omega, by omega⟩, ⟨p1, p2⟩, ⟨q1, q2⟩⟩, by simp; omega, HN.out, HV3⟩
        case measure => simp [intOf]; omega
    · have HE : Hid (R = some out) := by
        have h := HC.out
        rw [cvG_end hlt] at h
        rw [← h]
        simp [Hid]
      go_wp2
      go_ret2
      rw [HE.out]
      obtain ⟨hown, hbel, hsz⟩ := HV.out
      obtain ⟨hn, A, c, rfl, hw⟩ := Wr.of_ownS hown
      exact ⟨A, c, rfl, hw, hbel⟩
@[reducible] def cvV (p q x y : Int) : Value := .agg #[.int .i64 p, .int .i64 q, .int .i64 x, .int .i64 y]
theorem l03New_any (w : World) : Calls Tryz.prog 87 #[] w fun e w' => e = .returned (cvV 1 0 0 1) ∧ Below w.heap.size w w' := by
  go_enter Tryz.func87, Tryz.ntmps87
  go_wp2
  exact bodyPost_ret (v := cvV 1 0 0 1) (by simp [results, Tryz.results87, go_sem]; done) rfl ⟨rfl, ext1 _ _⟩
theorem l03Next_any (p q x y t : Int) (w : World) (hp : bil p) (hq : bil q) (hx : bil x) (hy : bil y) (ht : bil t) :
    Calls Tryz.prog 88 #[cvV p q x y, .int .i64 t] w fun e w' => e = .returned (cvV (t * p + x) (t * q + y) p q) ∧ Below w.heap.size w w' := by
  obtain ⟨p1, p2⟩ := hp
  obtain ⟨q1, q2⟩ := hq
  obtain ⟨x1, x2⟩ := hx
  obtain ⟨y1, y2⟩ := hy
  obtain ⟨t1, t2⟩ := ht
  obtain ⟨u1, u2⟩ := mul_bd (x := t) (y := p) (M := 1000000000) (N := 1000000000) (by omega) t2 (by omega) p2 t1 p1
  obtain ⟨u3, u4⟩ := mul_bd (x := t) (y := q) (M := 1000000000) (N := 1000000000) (by omega) t2 (by omega) q2 t1 q1
  unfold cvV
  go_enter Tryz.func88, Tryz.ntmps88
  go_wp2
  exact bodyPost_ret (v := cvV (t * p + x) (t * q + y) p q) (by simp [results, Tryz.results88, go_sem]; done) rfl ⟨rfl, ext_alloc (ext1 _ _) _⟩
theorem own_set {w : World} {base : Nat} {e : TypeId} {size n : Nat} {v : Value} {xs : List Value} (h : w.ownsRow base e size v n xs) {g j : Nat} (u : Value) (hg : v.ownBlock ≠ some g) : (w.setCell ⟨g, j, none⟩ u).ownsRow base e size v n xs := by
  obtain ⟨h1, h2⟩ := h
  refine ⟨h1, ?_⟩
  rcases h2 with h2 | ⟨g', cap, cur, hv, hb, hh, r⟩
  · exact .inl h2
  · refine .inr ⟨g', cap, cur, hv, hb, (Below.heap_setCell w ⟨g, j, none⟩ u g' ?_).trans hh, r⟩
    intro e
    subst e
    exact hg (by rw [hv]; rfl)
/-- The reference's state in block g. -/
structure BoxC (g : Nat) (p q x y : Int) (W : World) : Prop where
  c0 : W.cell? ⟨g, 0, none⟩ = some (.int .i64 p)
  c1 : W.cell? ⟨g, 1, none⟩ = some (.int .i64 q)
  c2 : W.cell? ⟨g, 2, none⟩ = some (.int .i64 x)
  c3 : W.cell? ⟨g, 3, none⟩ = some (.int .i64 y)
  f : ∀ j, W.frozen? ⟨g, j, none⟩ = false
  lt : g < W.heap.size
theorem BoxC.next {g : Nat} {p q x y : Int} {W W' : World} (h : BoxC g p q x y W) (hb : Below W.heap.size W W') : BoxC g p q x y W' :=
  ⟨(hb.cell (p := ⟨g, 0, none⟩) h.lt).trans h.c0, (hb.cell (p := ⟨g, 1, none⟩) h.lt).trans h.c1, (hb.cell (p := ⟨g, 2, none⟩) h.lt).trans h.c2, (hb.cell (p := ⟨g, 3, none⟩) h.lt).trans h.c3, fun j => (hb.frozen (p := ⟨g, j, none⟩) h.lt).trans (h.f j), Nat.lt_of_lt_of_le h.lt hb.size⟩
theorem BoxC.set {g : Nat} {p q x y a b c d : Int} {W : World} (h : BoxC g p q x y W) : BoxC g a b c d ((((W.setCell ⟨g, 0, none⟩ (.int .i64 a)).setCell ⟨g, 1, none⟩ (.int .i64 b)).setCell ⟨g, 2, none⟩ (.int .i64 c)).setCell ⟨g, 3, none⟩ (.int .i64 d)) := by
  have o : ∀ (V : World) (i j : Nat) (u : Value), i ≠ j → (V.setCell ⟨g, i, none⟩ u).cell? ⟨g, j, none⟩ = V.cell? ⟨g, j, none⟩ := fun V i j u hij => World.cell?_setCell_other _ _ _ _ (by intro e; injection e; omega)
  have s : ∀ (V : World) (i : Nat) (u v : Value), V.cell? ⟨g, i, none⟩ = some v → (V.setCell ⟨g, i, none⟩ u).cell? ⟨g, i, none⟩ = some u := fun V i u v hv => World.cell?_setCell_same _ _ _ hv
  refine ⟨?_, ?_, ?_, ?_, fun j => ?_, by simpa using h.lt⟩
  · rw [o _ 3 0 _ (by omega), o _ 2 0 _ (by omega), o _ 1 0 _ (by omega)]
    exact s _ _ _ _ h.c0
  · rw [o _ 3 1 _ (by omega), o _ 2 1 _ (by omega)]
    exact s _ _ _ _ ((o _ 0 1 _ (by omega)).trans h.c1)
  · rw [o _ 3 2 _ (by omega)]
    exact s _ _ _ _ ((o _ 1 2 _ (by omega)).trans ((o _ 0 2 _ (by omega)).trans h.c2))
  · exact s _ _ _ _ ((o _ 2 3 _ (by omega)).trans ((o _ 1 3 _ (by omega)).trans ((o _ 0 3 _ (by omega)).trans h.c3)))
  · exact (World.frozen?_setCell _ _ _ _).trans ((World.frozen?_setCell _ _ _ _).trans ((World.frozen?_setCell _ _ _ _).trans ((World.frozen?_setCell _ _ _ _).trans (h.f j))))
theorem BoxC.grown {g : Nat} {p q x y : Int} {W W' : World} {row : Option Nat} (h : BoxC g p q x y W) (hg : W.grownBy W' row) (hn : row ≠ some g) : BoxC g p q x y W' := by
  have hb : W'.heap[g]? = W.heap[g]? := hg.block g h.lt (fun e => hn e.symm)
  have hc : ∀ j, W'.cell? ⟨g, j, none⟩ = W.cell? ⟨g, j, none⟩ := fun j => World.cell?_of_block hb
  have hf : ∀ j, W'.frozen? ⟨g, j, none⟩ = W.frozen? ⟨g, j, none⟩ := fun j => by simp only [World.frozen?, hb]
  exact ⟨(hc 0).trans h.c0, (hc 1).trans h.c1, (hc 2).trans h.c2, (hc 3).trans h.c3, fun j => (hf j).trans (h.f j), Nat.lt_of_lt_of_le h.lt hg.size⟩
theorem OutF.set4 {w : World} {base g : Nat} {out : List (Int × Int)} {v : Value} {W : World} (h : OutF w base out v W) (hg : v.ownBlock ≠ some g) (hw : w.heap.size ≤ g) (a b c d : Value) :
    OutF w base out v ((((W.setCell ⟨g, 0, none⟩ a).setCell ⟨g, 1, none⟩ b).setCell ⟨g, 2, none⟩ c).setCell ⟨g, 3, none⟩ d) :=
  ⟨own_set (own_set (own_set (own_set h.1 _ hg) _ hg) _ hg) _ hg, ext_set (ext_set (ext_set (ext_set h.2.1 hw _) hw _) hw _) hw _, by simpa using h.2.2⟩
set_option maxRecDepth 100000 in
set_option maxHeartbeats 4000000 in
theorem l03Convergents_any (A : Option Addr) (c : Nat) (ts : List Int) (w : World) (hx : Rd (Value.int .i64) w w.heap.size A ts) (hl : ts.length ≤ 1000000000) (hb : ∀ t ∈ ts, bil t) :
    Calls Tryz.prog 77 #[.slice A ts.length c] w (RetCv w (convs ts)) := by
  obtain ⟨ti, hi, hz0, hz1, hz2⟩ := info_parts infoFr
  have HI := Lib.hid hi
  have HB := Lib.hid hb
  clear hb
  obtain ⟨R, hR⟩ : ∃ R, convs ts = R := ⟨_, rfl⟩
  rw [hR]
  have HR : Hid (cvG (ts.drop 0) 1 0 0 1 = R) := hR
  clear hR
  go_enter Tryz.func77, Tryz.ntmps77
  go_wp2_with fail
  refine (l03New_any _).mono ?_
  rintro e w1 ⟨rfl, hb1⟩
  go_wp2_with fail
  have hz1' : w.heap.size < w1.heap.size := by have := hb1.size; simp at this; omega
  have hV0 : Hid (OutF w w.heap.size [] (.slice (some ⟨w.heap.size, 0, none⟩) 0 0) (w1.alloc (.cells #[.int .i64 1, .int .i64 0, .int .i64 0, .int .i64 1] 111))) := by
    have h := World.ownsRow_lit (base := w.heap.size) (e := 34) (size := 2) w #[] 0 (Nat.le_refl _) (by simp) rfl
    have h0 : OutF w w.heap.size [] (.slice (some ⟨w.heap.size, 0, none⟩) 0 0) (w.alloc (.cells #[] 34)) := ⟨by simpa [frL] using h, ext1 _ _, by simp⟩
    exact (h0.next hb1).next (ext1 _ _)
  have hB0 : Hid (BoxC w1.heap.size 1 0 0 1 (w1.alloc (.cells #[.int .i64 1, .int .i64 0, .int .i64 0, .int .i64 1] 111))) :=
    ⟨by rw [cell_one]; rfl, by rw [cell_one]; rfl, by rw [cell_one]; rfl, by rw [cell_one]; rfl, fun j => World.frozen?_alloc_at _ _ _ _ rfl, by simp⟩
  generalize w1.alloc (.cells #[.int .i64 1, .int .i64 0, .int .i64 0, .int .i64 1] 111) = W0 at *
  clear hb1
  go_loopw [6, 4] (fun s v wr => ∃ (k : Nat) (p q p0 q0 : Int) (out : List (Int × Int)), k ≤ ts.length ∧ s = .int .i64 k ∧ Hid (bil p ∧ bil q ∧ bil p0 ∧ bil q0) ∧ out.length ≤ k ∧ Hid ((cvG (ts.drop k) p q p0 q0).map (out ++ ·) = R) ∧ Hid (OutF w w.heap.size out v wr ∧ v.ownBlock ≠ some w1.heap.size ∧ BoxC w1.heap.size p q p0 q0 wr)) (fun s _ _ => ts.length - (intOf s).toNat)
  case atStart => exact ⟨0, 1, 0, 0, 1, [], by omega, rfl, ⟨⟨by omega, by omega⟩, ⟨by omega, by omega⟩, ⟨by omega, by omega⟩, ⟨by omega, by omega⟩⟩, by simp, by unfold Hid; rw [← HR.out]; simp, hV0.out, fun e => absurd (Option.some.inj (show some w.heap.size = some w1.heap.size from e)) (by omega), hB0.out⟩
  case round =>
    obtain ⟨k, p, q, p0, q0, out, hk, rfl, HBD, hok, HC, HV⟩ := hrel
    clear hV0 hB0 HR
    have hbe := HV.out.1.2.1
    by_cases hlt : k < ts.length
    · obtain ⟨b, off, rfl, hb, hc⟩ := ((hx.below hbe).more hbe.size) (by omega)
      obtain ⟨t, htk⟩ : ∃ t, ts[k]? = some t := ⟨_, List.getElem?_eq_getElem hlt⟩
      have c1 := hc k t htk
      have ht := HB.out t (List.mem_of_getElem? htk)
      have HS := Lib.hid (cvG_step (p := p) (q := q) (p0 := p0) (q0 := q0) htk)
      have i0 : (0 : Int) ≤ (k : Int) := by omega
      have i1 : (k : Int) < (ts.length : Int) := by omega
      have HNX : Hid (∀ W, Calls Tryz.prog 88 #[cvV p q p0 q0, .int .i64 t] W fun e w' => e = .returned (cvV (t * p + p0) (t * q + q0) p q) ∧ Below W.heap.size W w') := fun W => l03Next_any p q p0 q0 t W HBD.out.1 HBD.out.2.1 HBD.out.2.2.1 HBD.out.2.2.2 ht
      have HVF : Hid (∀ W, Calls Tryz.prog 38 #[fracV (t * p + p0) (t * q + q0)] W fun e w' => e = .returned (.bool (fracOk (t * p + p0) (t * q + q0))) ∧ Below W.heap.size W w') := fun W => l02Ok_any _ _ W
      have HN0 : Hid (∀ l, (cvG (ts.drop k) p q p0 q0).map (out ++ ·) = l → fracOk (t * p + p0) (t * q + q0) = true → (cvG (ts.drop (k + 1)) (t * p + p0) (t * q + q0) p q).map ((out ++ [(t * p + p0, t * q + q0)]) ++ ·) = l) := fun l h hfo => by
        rw [HS.out, hfo, if_pos rfl] at h
        rw [map_snoc]
        exact h
      have HF0 : Hid (fracOk (t * p + p0) (t * q + q0) = false → R = none) := fun hfo => by
        have h := HC.out
        rw [HS.out, hfo] at h
        exact h.symm
      have HBB : Hid (fracOk (t * p + p0) (t * q + q0) = true → bil (t * p + p0) ∧ bil (t * q + q0)) := fun hfo => by
        obtain ⟨f1, f2, f3, f4, _⟩ := fracOk_true.1 hfo
        exact ⟨⟨f3, f4⟩, ⟨by omega, f2⟩⟩
      generalize t * p + p0 = np at *
      generalize t * q + q0 = nq at *
      obtain ⟨b0, b1, b2, b3, bf, blt⟩ := HV.out.2.2
      have hbf0 := bf 0
      have hbf1 := bf 1
      have hbf2 := bf 2
      have hbf3 := bf 3
      clear hc htk HS ht bf
      unfold fracV at HVF
      unfold cvV at HNX
      go_wp2_with fail
      have HBX := Lib.hid (fun (W : World) (h : Below wr.heap.size wr W) => And.intro (HV.out.2.2.next h) (HV.out.1.next h))
      go_region_with (first | (go_at_call 88; (with_reducible refine (HNX.out _).mono ?_); rintro e w2 ⟨rfl, hb2⟩; have hb02 : Below wr.heap.size wr w2 := (ext_trans (ext_drew (Below.refl _ _)) hb2); obtain ⟨B2, O2⟩ := HBX.out w2 hb02; have z0 := B2.c0; have z1 := B2.c1; have z2 := B2.c2; have z3 := B2.c3; have y0 := B2.f 0; have y1 := B2.f 1; have y2 := B2.f 2; have y3 := B2.f 3))
      all_goals
        have B4 := Lib.hid (BoxC.set (a := np) (b := nq) (c := p) (d := q) B2)
        have O4 := Lib.hid (OutF.set4 O2 HV.out.2.1 (by omega) (.int .i64 np) (.int .i64 nq) (.int .i64 p) (.int .i64 q))
        clear z0 z1 z2 z3 y0 y1 y2 y3 B2 O2 hbf0 hbf1 hbf2 hbf3 b0 b1 b2 b3 c1 HBX
        generalize (((w2.setCell ⟨w1.heap.size, 0, none⟩ (.int .i64 np)).setCell ⟨w1.heap.size, 1, none⟩ (.int .i64 nq)).setCell ⟨w1.heap.size, 2, none⟩ (.int .i64 p)).setCell ⟨w1.heap.size, 3, none⟩ (.int .i64 q) = W4 at *
        have z0 := B4.out.c0
        have z1 := B4.out.c1
        cases hfo : fracOk np nq
        · rw [hfo] at HVF
          have HE : Hid (R = none) := HF0.out hfo
          clear hfo
          go_wp2_with fail
          refine (HVF.out _).mono ?_
          rintro e w5 ⟨rfl, hb5⟩
          go_wp2
          go_ret2
          rw [HE.out]
          exact RetCv.none_ (ext_trans (ext_alloc O4.out.2.1 _) hb5)
        · rw [hfo] at HVF
          have HN := Lib.hid (HN0.out _ HC.out hfo)
          have HBB2 := Lib.hid (HBB.out hfo)
          clear hfo HN0
          go_wp2_with fail
          refine (HVF.out _).mono ?_
          rintro e w5 ⟨rfl, hb5⟩
          have m0 : w5.cell? ⟨W4.heap.size, 0, none⟩ = some (.int .i64 np) := (hb5.cell (p := ⟨W4.heap.size, 0, none⟩) (by simp)).trans (by rw [cell_one]; rfl)
          have m1 : w5.cell? ⟨W4.heap.size, 1, none⟩ = some (.int .i64 nq) := (hb5.cell (p := ⟨W4.heap.size, 1, none⟩) (by simp)).trans (by rw [cell_one]; rfl)
          have O5 := Lib.hid (OutF.next O4.out (ext_trans (ext1 W4 _) hb5))
          have B5 := Lib.hid (BoxC.next B4.out (ext_trans (ext1 W4 _) hb5))
          have hown := O5.out.1
          have hbz := O5.out.2.2
          have hgz := B5.out.lt
          go_wp2_with (at_builtin; refine wpList_append_own_at _ rfl _ _ 72 rfl w.heap.size 34 ti (fracV 0 0) 2 16 Tryz.underlying72 HI.out hz0 hz1 hz2 rfl (by decide) _ _ _ rfl (hown.alloc _) ⟨w5.heap.size, 0, none⟩ 1 1 [.int .i64 np, .int .i64 nq] rfl rfl ?c1 ?c2 ?c3 ?c4 ?c5 ?_)
          case c1 => exact news_row w5 _ _ rfl
          case c2 => simp [Value.oneCell']
          case c3 => unfold maxLen; omega
          case c4 => omega
          case c5 => simp; omega
          intro v' w6 hown3 hgrow _ hat
          have O6 := OutF.push O5.out (Nat.le_refl _) _ _ hown3 hgrow
          have B6 := BoxC.grown (B5.out.next (ext1 w5 _)) hgrow HV.out.2.1
          have hne : v'.ownBlock ≠ some w1.heap.size := by
            rcases hat with h | h
            · rw [h]; exact HV.out.2.1
            · rw [h]; intro e; have := Option.some.inj e; (try simp at this); omega
          clear hown3 hgrow hown hat
          go_wp2
          go_roundw
          case rel => exact ⟨k + 1, np, nq, p, q, _, by omega, by go_num, ⟨HBB2.out.1, HBB2.out.2, HBD.out.1, HBD.out.2.1⟩, by simp; omega, HN.out, O6, hne, B6⟩
          case measure => simp [intOf]; omega
    · have HE : Hid (R = some out) := by
        have h := HC.out
        rw [cvG_end hlt] at h
        rw [← h]
        simp [Hid]
      go_wp2
      go_ret2
      rw [HE.out]
      obtain ⟨hown, hbel, hsz⟩ := HV.out.1
      obtain ⟨hn, A, c, rfl, hw⟩ := Wr.of_ownS hown
      exact ⟨A, c, rfl, hw, hbel⟩
end Go.Proofs.YtjgafjbccfjojaaGreat
namespace Go.Proofs.YtjgafjbccfjojaaGreat
open Go.RowKit Go.Sort
/-- A slice of integers with its capacity. -/
def RdC (w : World) (B : Nat) (T : Option Addr) (c : Nat) (xs : List Int) : Prop := Rd (Value.int .i64) w B T xs ∧ xs.length ≤ c ∧ c ≤ maxLen
theorem size64N_any (A : Option Addr) (n c : Nat) (w : World) : Calls Tryz.prog 55 #[.slice A n c] w fun e w' => e = .returned (.int .i64 (n : Int)) ∧ w = w' := by
  go_enter Tryz.func55, Tryz.ntmps55
  go_wp2
  go_ret
  exact ⟨rfl, rfl⟩
/-- Terms that are valid: each is in its range. -/
def tmB (i : Nat) (x : Int) : Bool := inR x (if i = 0 then -1000000000 else 1) 1000000000
def termsAll : Nat → List Int → Bool
  | _, [] => true
  | i, x :: xs => tmB i x && termsAll (i + 1) xs
def termsB (ts : List Int) : Bool := termsAll 0 ts && inR ts.length 1 60
theorem termsAll_step {xs : List Int} {k : Nat} {x : Int} (h : xs[k]? = some x) : termsAll k (xs.drop k) = (tmB k x && termsAll (k + 1) (xs.drop (k + 1))) := by
  obtain ⟨h1, h2⟩ := List.getElem?_eq_some_iff.1 h
  rw [List.drop_eq_getElem_cons h1, h2]; rfl
theorem termsAll_end {xs : List Int} {k : Nat} (h : ¬ k < xs.length) : termsAll k (xs.drop k) = true := by
  rw [List.drop_eq_nil_of_le (by omega)]; rfl
set_option maxHeartbeats 1000000 in
theorem l03Ok_any (A : Option Addr) (c : Nat) (xs : List Int) (w : World) (hx : Rd (Value.int .i64) w w.heap.size A xs) (hm : xs.length ≤ maxLen) :
    Calls Tryz.prog 47 #[.slice A xs.length c] w fun e w' => e = .returned (.bool (termsB xs)) ∧ w = w' := by
  unfold maxLen at hm
  obtain ⟨R, hR⟩ : ∃ R, termsAll 0 xs = R := ⟨_, rfl⟩
  have e : termsB xs = (R && inR xs.length 1 60) := by rw [termsB, hR]
  rw [e]
  clear e
  have HR : Hid (termsAll 0 (xs.drop 0) = R) := hR
  clear hR
  go_enter Tryz.func47, Tryz.ntmps47
  go_wp2_with fail
  go_loop [3] (fun t => ∃ k : Nat, k ≤ xs.length ∧ t = .int .i64 k ∧ Hid (termsAll k (xs.drop k) = R)) (fun t => xs.length - (intOf t).toNat)
  case atStart => exact ⟨0, by omega, rfl, HR.out⟩
  case round =>
    obtain ⟨k, hk, rfl, HK⟩ := hrel
    clear HR
    by_cases hlt : k < xs.length
    · obtain ⟨b, off, rfl, hb, hc⟩ := hx (by omega)
      obtain ⟨x, hxk⟩ : ∃ x, xs[k]? = some x := ⟨_, List.getElem?_eq_getElem hlt⟩
      have c1 := hc k x hxk
      have HS := Lib.hid (termsAll_step hxk)
      clear hc hxk
      have i0 : (0 : Int) ≤ (k : Int) := by omega
      have i1 : (k : Int) < (xs.length : Int) := by omega
      cases ht : tmB k x
      · have HE : Hid (R = false) := by
          have h := HK.out
          rw [HS.out, ht] at h
          exact h.symm
        unfold tmB at ht
        by_cases h0 : k = 0
        · have h1 : ((k : Int) == 0) = true := by simp [h0]
          rw [if_pos h0] at ht
          clear h0
          go_wp2_with (go_at_call 40; refine (l00In_is ht _).mono ?_; rintro e w' ⟨rfl, rfl⟩)
          go_ret
          exact ⟨ret_bool (by rw [HE.out]; rfl), rfl⟩
        · have h1 : ((k : Int) == 0) = false := by simp [h0]
          rw [if_neg h0] at ht
          clear h0
          go_wp2_with (go_at_call 40; refine (l00In_is ht _).mono ?_; rintro e w' ⟨rfl, rfl⟩)
          go_ret
          exact ⟨ret_bool (by rw [HE.out]; rfl), rfl⟩
      · have HE : Hid (termsAll (k + 1) (xs.drop (k + 1)) = R) := by
          have h := HK.out
          rw [HS.out, ht] at h
          exact h
        unfold tmB at ht
        by_cases h0 : k = 0
        · have h1 : ((k : Int) == 0) = true := by simp [h0]
          rw [if_pos h0] at ht
          clear h0
          go_wp2_with (go_at_call 40; refine (l00In_is ht _).mono ?_; rintro e w' ⟨rfl, rfl⟩)
          go_round
          case rel => exact ⟨k + 1, by omega, by go_num, HE.out⟩
          case measure => simp [intOf]; omega
        · have h1 : ((k : Int) == 0) = false := by simp [h0]
          rw [if_neg h0] at ht
          clear h0
          go_wp2_with (go_at_call 40; refine (l00In_is ht _).mono ?_; rintro e w' ⟨rfl, rfl⟩)
          go_round
          case rel => exact ⟨k + 1, by omega, by go_num, HE.out⟩
          case measure => simp [intOf]; omega
    · have HE : Hid (R = true) := HK.out.symm.trans (termsAll_end hlt)
      go_wp2_with (go_at_call 40; refine (l00In_any _ _ _ _).mono ?_; rintro e w' ⟨rfl, rfl⟩)
      go_ret
      exact ⟨ret_bool (by rw [HE.out]; rfl), rfl⟩
/-- The index of the first element that p takes; -1 if there is none. -/
def ixP (p : Int → Bool) : List Int → Nat → Int
  | [], _ => -1
  | x :: xs, i => if p x = true then i else ixP p xs (i + 1)
theorem ixP_all (p : Int → Bool) : ∀ (xs : List Int) (i : Nat), decide (0 ≤ ixP p xs i) = xs.any p
  | [], _ => rfl
  | x :: xs, i => by
    unfold ixP
    cases h : p x
    · rw [if_neg (by simp), ixP_all p xs (i + 1), List.any_cons, h, Bool.false_or]
    · rw [if_pos rfl, List.any_cons, h, Bool.true_or, decide_eq_true (by omega)]
theorem ixP_step {p : Int → Bool} {xs : List Int} {k : Nat} {x : Int} (h : xs[k]? = some x) : ixP p (xs.drop k) k = if p x = true then (k : Int) else ixP p (xs.drop (k + 1)) (k + 1) := by
  obtain ⟨h1, h2⟩ := List.getElem?_eq_some_iff.1 h
  rw [List.drop_eq_getElem_cons h1, h2]; rfl
theorem ixP_end {p : Int → Bool} {xs : List Int} {k : Nat} (h : ¬ k < xs.length) : ixP p (xs.drop k) k = -1 := by
  rw [List.drop_eq_nil_of_le (by omega)]; rfl
set_option maxHeartbeats 1000000 in
theorem indexFuncVT_any (p : Int → Bool) (HF : Hid (∀ x W, Calls Tryz.prog 74 #[.int .i64 x] W fun e w' => e = .returned (.bool (p x)) ∧ W = w')) (A : Option Addr) (c : Nat) (xs : List Int) (w : World) (hx : Rd (Value.int .i64) w w.heap.size A xs) (hm : xs.length ≤ maxLen) :
    Calls Tryz.prog 85 #[.slice A xs.length c, .func (Fn.func 74) #[] #[]] w fun e w' => e = .returned (.int .i64 (ixP p xs 0)) ∧ w = w' := by
  unfold maxLen at hm
  obtain ⟨R, hR⟩ : ∃ R, ixP p xs 0 = R := ⟨_, rfl⟩
  rw [hR]
  have HR : Hid (ixP p (xs.drop 0) 0 = R) := hR
  clear hR
  go_enter Tryz.func85, Tryz.ntmps85
  go_wp2_with fail
  go_loop [8] (fun t => ∃ k : Nat, k ≤ xs.length ∧ t = .int .i64 k ∧ Hid (ixP p (xs.drop k) k = R)) (fun t => xs.length - (intOf t).toNat)
  case atStart => exact ⟨0, by omega, rfl, HR.out⟩
  case round =>
    obtain ⟨k, hk, rfl, HK⟩ := hrel
    clear HR
    by_cases hlt : k < xs.length
    · obtain ⟨b, off, rfl, hb, hc⟩ := hx (by omega)
      obtain ⟨x, hxk⟩ : ∃ x, xs[k]? = some x := ⟨_, List.getElem?_eq_getElem hlt⟩
      have c1 := hc k x hxk
      have HS := Lib.hid (ixP_step (p := p) hxk)
      clear hc hxk
      have i0 : (0 : Int) ≤ (k : Int) := by omega
      have i1 : (k : Int) < (xs.length : Int) := by omega
      have HC := Lib.hid (HF.out x)
      cases hp : p x
      · have HE : Hid (ixP p (xs.drop (k + 1)) (k + 1) = R) := by
          have h := HK.out
          rw [HS.out, hp, if_neg (by simp)] at h
          exact h
        rw [hp] at HC
        clear hp
        go_wp2_with fail
        refine (HC.out _).mono ?_
        rintro e w' ⟨rfl, rfl⟩
        go_wp2
        go_round
        case rel => exact ⟨k + 1, by omega, by go_num, HE.out⟩
        case measure => simp [intOf]; omega
      · have HE : Hid ((k : Int) = R) := by
          have h := HK.out
          rw [HS.out, hp, if_pos rfl] at h
          exact h
        rw [hp] at HC
        clear hp
        go_wp2_with fail
        refine (HC.out _).mono ?_
        rintro e w' ⟨rfl, rfl⟩
        go_wp2
        go_ret
        exact ⟨ret_int HE.out, rfl⟩
    · have HE : Hid (-1 = R) := (ixP_end hlt).symm.trans HK.out
      go_wp2
      go_ret
      exact ⟨ret_int HE.out, rfl⟩
theorem containsFuncVT_any (p : Int → Bool) (HF : Hid (∀ x W, Calls Tryz.prog 74 #[.int .i64 x] W fun e w' => e = .returned (.bool (p x)) ∧ W = w')) (A : Option Addr) (c : Nat) (xs : List Int) (w : World) (hx : Rd (Value.int .i64) w w.heap.size A xs) (hm : xs.length ≤ maxLen) :
    Calls Tryz.prog 73 #[.slice A xs.length c, .func (Fn.func 74) #[] #[]] w fun e w' => e = .returned (.bool (xs.any p)) ∧ w = w' := by
  have HC : Hid (∀ W, w = W → Calls Tryz.prog 85 #[.slice A xs.length c, .func (Fn.func 74) #[] #[]] W fun e w' => e = .returned (.int .i64 (ixP p xs 0)) ∧ W = w') := fun W hW => by subst hW; exact indexFuncVT_any p HF A c xs w hx hm
  rw [← ixP_all p xs 0]
  generalize ixP p xs 0 = z at *
  go_enter Tryz.func73, Tryz.ntmps73
  go_wp2_with fail
  refine (HC.out _ rfl).mono ?_
  rintro e w' ⟨rfl, rfl⟩
  go_wp2
  go_ret
  exact ⟨rfl, rfl⟩
theorem vtF_any (x : Int) (w : World) : Calls Tryz.prog 74 #[.int .i64 x] w fun e w' => e = .returned (.bool (!inR x 1 1000000000)) ∧ w = w' := by
  go_enter Tryz.func74, Tryz.ntmps74
  go_wp2_with (go_at_call 24; refine (within_any _ _ _ _).mono ?_; rintro e w' ⟨rfl, rfl⟩)
  go_ret
  exact ⟨rfl, rfl⟩
theorem termsAll_tail : ∀ (xs : List Int) (i : Nat), 0 < i → termsAll i xs = !xs.any fun x => !inR x 1 1000000000
  | [], _, _ => rfl
  | x :: xs, i, h => by
    unfold termsAll
    rw [termsAll_tail xs (i + 1) (by omega), List.any_cons, tmB, if_neg (by omega)]
    cases inR x 1 1000000000 <;> simp
set_option maxHeartbeats 1000000 in
theorem ValidTerms_any (A : Option Addr) (c : Nat) (xs : List Int) (w : World) (hx : RdC w w.heap.size A c xs) (hm : xs.length ≤ maxLen) :
    Calls Tryz.prog 44 #[.slice A xs.length c] w fun e w' => e = .returned (.bool (termsB xs)) ∧ w = w' := by
  obtain ⟨hx, hc1, hc2⟩ := hx
  have hm' := hm
  unfold maxLen at hm' hc2
  cases hl : inR xs.length 1 60
  · have e : termsB xs = false := by rw [termsB, hl, Bool.and_false]
    rw [e]
    clear e
    go_enter Tryz.func44, Tryz.ntmps44
    go_wp2_with (first | (go_at_call 55; refine (size64N_any _ _ _ _).mono ?_; rintro e w' ⟨rfl, rfl⟩) | (go_at_call 24; refine (within_is hl _).mono ?_; rintro e w' ⟨rfl, rfl⟩))
    go_ret
    exact ⟨rfl, rfl⟩
  · obtain ⟨n1, n2⟩ := inR_true.1 hl
    obtain ⟨b, off, rfl, hb, hc⟩ := hx (by omega)
    match xs, hl with
    | [], hl => simp at n1
    | x :: ys, hl =>
      have c0 := hc 0 x rfl
      rw [Nat.add_zero] at c0
      have hr : Rd (Value.int .i64) w w.heap.size (some ⟨b, off + 1, none⟩) ys := fun _ => ⟨b, off + 1, rfl, hb, fun j y hj => by
        rw [Nat.add_assoc, Nat.add_comm 1 j]
        exact hc (j + 1) y (by simpa using hj)⟩
      cases hx0 : inR x (-1000000000) 1000000000
      · have e : termsB (x :: ys) = false := by
          rw [termsB, termsAll, tmB, if_pos rfl, hx0, Bool.false_and, Bool.false_and]
        rw [e]
        clear e hc
        go_enter Tryz.func44, Tryz.ntmps44
        go_wp2_with fail
        refine (size64N_any _ _ _ _).mono ?_
        rintro e w' ⟨rfl, rfl⟩
        go_wp2_with fail
        refine (within_is hl _).mono ?_
        rintro e w' ⟨rfl, rfl⟩
        go_wp2_with fail
        refine (within_is hx0 _).mono ?_
        rintro e w' ⟨rfl, rfl⟩
        go_wp2
        go_ret
        exact ⟨rfl, rfl⟩
      · have e : termsB (x :: ys) = !ys.any fun x => !inR x 1 1000000000 := by
          rw [termsB, termsAll, tmB, if_pos rfl, hx0, hl, Bool.true_and, Bool.and_true, termsAll_tail _ _ (by omega)]
        rw [e]
        clear e hc
        have hys : ys.length ≤ maxLen := by have : (x :: ys).length = ys.length + 1 := rfl; omega
        have HV : Hid (∀ x W, Calls Tryz.prog 74 #[.int .i64 x] W fun e w' => e = .returned (.bool (!inR x 1 1000000000)) ∧ W = w') := vtF_any
        have hcy : ys.length + 1 ≤ c := hc1
        have HC : Hid (∀ A k, (A = some ⟨b, off + 1, none⟩ ∨ ys.length ≤ 0) → Calls Tryz.prog 73 #[.slice A ys.length k, .func (Fn.func 74) #[] #[]] w fun e w' => e = .returned (.bool (ys.any fun x => !inR x 1 1000000000)) ∧ w = w') := fun A k h =>
          containsFuncVT_any _ HV A k ys w (by
            rcases h with rfl | h
            · exact hr
            · exact fun hp => absurd hp (by omega)) hys
        clear hr HV
        go_enter Tryz.func44, Tryz.ntmps44
        go_wp2_with fail
        refine (size64N_any _ _ _ _).mono ?_
        rintro e w' ⟨rfl, rfl⟩
        go_wp2_with fail
        refine (within_is hl _).mono ?_
        rintro e w' ⟨rfl, rfl⟩
        go_wp2_with fail
        refine (within_is hx0 _).mono ?_
        rintro e w' ⟨rfl, rfl⟩
        by_cases hc3 : 1 < c
        · go_wp2_with fail
          refine (HC.out _ _ (.inl rfl)).mono ?_
          rintro e w' ⟨rfl, rfl⟩
          go_wp2
          go_ret
          exact ⟨rfl, rfl⟩
        · have hc4 : c = 1 := by omega
          obtain rfl : ys = [] := List.eq_nil_of_length_eq_zero (by omega)
          subst hc4
          have HC2 : Hid (∀ A k, Calls Tryz.prog 73 #[.slice A 0 k, .func (Fn.func 74) #[] #[]] w fun e w' => e = .returned (.bool false) ∧ w = w') := fun A k => HC.out A k (.inr (by simp))
          clear HC hc1 hcy hys hx
          go_wp2_with fail
          refine (HC2.out _ _).mono ?_
          rintro e w' ⟨rfl, rfl⟩
          go_wp2
          go_ret
          exact ⟨rfl, rfl⟩
end Go.Proofs.YtjgafjbccfjojaaGreat
