/- Convergents: both walks. No condition but those that each theorem names. -/
import Derived.Test.YtmgfceiomfiknaaDoorExpW
import Derived.Deep.RegionHeld3
import Derived.Deep.RegionWith
namespace Go.Proofs.YtmgfceiomfiknaaDoor
open Go.RowKit Go.Sort

/-- A slice of structs of s integers is a row of integers. -/
theorem Wr.of_ownS {α : Type} {enc : α → Value} {w : World} {base s : Nat} {e : TypeId} {v : Value} {n : Nat} {xs : List α} (h : w.ownsRow base e s v n (xs.map enc)) : xs.length = n * s ∧ ∃ A c, v = .slice A n c ∧ Wr enc w base A xs := by
  have hn : xs.length = n * s := by have := h.1; simpa using this
  refine ⟨hn, ?_⟩
  rcases h.2 with ⟨rfl, h0⟩ | ⟨g, cap, cur, rfl, hg, hh, hc, hm, hsz, ht⟩
  · exact ⟨none, 0, by rw [h0], fun hp => by
      exfalso
      rw [hn, h0] at hp
      simp at hp⟩
  · refine ⟨_, _, rfl, fun _ => ⟨g, 0, rfl, hg, ?_, fun j x hx => ?_, fun j => ?_⟩⟩
    · rcases Nat.lt_or_ge g w.heap.size with h1 | h1
      · exact h1
      · rw [Array.getElem?_eq_none h1] at hh; cases hh
    · have hx' : (xs.map enc)[j]? = some (enc x) := by rw [List.getElem?_map, hx]; rfl
      have := h.cells (g := g) rfl j _ hx'
      have ea : (⟨g, 0, none⟩ : Addr).add j = ⟨g, 0 + j, none⟩ := by
        unfold Addr.add
        by_cases hj : j = 0 <;> simp [hj]
      rw [ea] at this
      exact this
    · simp [World.frozen?, hh]

def frL (ps : List (Int × Int)) : List Int := ps.flatMap fun p => [p.1, p.2]
theorem frL_length (ps : List (Int × Int)) : (frL ps).length = ps.length * 2 := by
  induction ps with
  | nil => rfl
  | cons p ps ih => simp only [frL, List.flatMap_cons, List.length_append, List.length_cons, List.length_nil] at *; omega
theorem frL_snoc (ps : List (Int × Int)) (p q : Int) : frL (ps ++ [(p, q)]) = frL ps ++ [p, q] := by simp [frL]
theorem frL_get {ps : List (Int × Int)} {j : Nat} {p : Int × Int} (h : ps[j]? = some p) : (frL ps)[j * 2]? = some p.1 ∧ (frL ps)[j * 2 + 1]? = some p.2 := by
  induction ps generalizing j with
  | nil => simp at h
  | cons a ps ih =>
    cases j with
    | zero =>
      simp at h
      subst h
      simp [frL]
    | succ j =>
      have := ih (j := j) (by simpa using h)
      have e1 : (j + 1) * 2 = j * 2 + 1 + 1 := by omega
      simp only [frL, List.flatMap_cons] at *
      rw [e1]
      exact this

/-- The convergents that follow; none if one is no fraction. -/
def cvG : List Int → Int → Int → Int → Int → Option (List (Int × Int))
  | [], _, _, _, _ => some []
  | t :: ts, p, q, p0, q0 => if fracOk (t * p + p0) (t * q + q0) = true then (cvG ts (t * p + p0) (t * q + q0) p q).map ((t * p + p0, t * q + q0) :: ·) else none
def convs (ts : List Int) : Option (List (Int × Int)) := cvG ts 1 0 0 1
theorem cvG_step {ts : List Int} {k : Nat} {t p q p0 q0 : Int} (h : ts[k]? = some t) : cvG (ts.drop k) p q p0 q0 = if fracOk (t * p + p0) (t * q + q0) = true then (cvG (ts.drop (k + 1)) (t * p + p0) (t * q + q0) p q).map ((t * p + p0, t * q + q0) :: ·) else none := by
  obtain ⟨h1, h2⟩ := List.getElem?_eq_some_iff.1 h
  rw [List.drop_eq_getElem_cons h1, h2]; rfl
theorem cvG_end {ts : List Int} {k : Nat} {p q p0 q0 : Int} (h : ¬ k < ts.length) : cvG (ts.drop k) p q p0 q0 = some [] := by
  rw [List.drop_eq_nil_of_le (by omega)]; rfl
def bil (n : Int) : Prop := -1000000000 ≤ n ∧ n ≤ 1000000000

/-- What a call returns that makes a slice of fractions, and whether all went well. -/
def RetCv (w : World) (R : Option (List (Int × Int))) (e : Ending) (w' : World) : Prop :=
  ∃ A c, e = .returned (.tuple #[.slice A (R.getD []).length c, .bool R.isSome]) ∧ Wr (Value.int .i64) w' w.heap.size A (frL (R.getD [])) ∧ Below w.heap.size w w'
theorem RetCv.none_ {w w' : World} (h : Below w.heap.size w w') : RetCv w none (.returned (.tuple #[.slice none 0 0, .bool false])) w' := ⟨none, 0, rfl, fun h => absurd h (by simp [frL]), h⟩

/-- What holds of a list of fractions on its way. -/
def OutF (w : World) (base : Nat) (out : List (Int × Int)) (v : Value) (wr : World) : Prop :=
  wr.ownsRow base 57 2 v out.length ((frL out).map (Value.int .i64)) ∧ Below w.heap.size w wr ∧ base ≤ wr.heap.size
theorem OutF.next {w : World} {base : Nat} {out : List (Int × Int)} {v : Value} {wr w2 : World} (h : OutF w base out v wr) (hb : Below wr.heap.size wr w2) : OutF w base out v w2 :=
  ⟨own_below h.1 hb, ext_trans h.2.1 hb, Nat.le_trans h.2.2 hb.size⟩
theorem OutF.push {w : World} {base : Nat} {out : List (Int × Int)} {v : Value} {wr : World} (h : OutF w base out v wr) (hbase : w.heap.size ≤ base) {p q : Int} (v' : Value) (w3 : World) {o : Obj}
    (hown3 : w3.ownsRow base 57 2 v' (out.length + 1) ((frL out).map (Value.int .i64) ++ [.int .i64 p, .int .i64 q])) (hg : (wr.alloc o).grownBy w3 v.ownBlock) : OutF w base (out ++ [(p, q)]) v' w3 := by
  obtain ⟨hown, hbel, hsz⟩ := h
  refine ⟨by simpa [frL_snoc] using hown3, below_grown (ext_alloc hbel o) (hown.alloc o) hbase hg, ?_⟩
  have := hg.size
  simp at this
  omega
theorem infoFr : (Tryd.prog.info? 57).map (fun i => (i.zero, i.size, i.bytes)) = some (some (fracV 0 0), 2, 16) := by kernel_rfl

/-- The cells of a new block, one by one. -/
theorem news_row (w : World) {C : Array Value} (T : TypeId) (vs : List Value) (h : C.toList = vs) : ∀ j u, vs[j]? = some u → (w.alloc (.cells C T)).cell? ((⟨w.heap.size, 0, none⟩ : Addr).add j) = some u := fun j u hu => by
  have ea : (⟨w.heap.size, 0, none⟩ : Addr).add j = ⟨w.heap.size, 0 + j, none⟩ := by
    unfold Addr.add
    by_cases hj : j = 0 <;> simp [hj]
  rw [ea, Nat.zero_add, cell_one, ← Array.getElem?_toList, h]
  exact hu
theorem map_snoc (out : List (Int × Int)) (x : Int × Int) (o : Option (List (Int × Int))) : o.map ((out ++ [x]) ++ ·) = (o.map (x :: ·)).map (out ++ ·) := by cases o <;> simp
set_option maxRecDepth 100000 in
set_option maxHeartbeats 2000000 in
theorem convergents_any (A : Option Addr) (c : Nat) (ts : List Int) (w : World) (hx : Rd (Value.int .i64) w w.heap.size A ts) (hl : ts.length ≤ 1000000000) (hb : ∀ t ∈ ts, bil t) :
    Calls Tryd.prog 93 #[.slice A ts.length c] w (RetCv w (convs ts)) := by
  obtain ⟨ti, hi, hz0, hz1, hz2⟩ := info_parts infoFr
  have HI := Lib.hid hi
  have HB := Lib.hid hb
  clear hb
  obtain ⟨R, hR⟩ : ∃ R, convs ts = R := ⟨_, rfl⟩
  rw [hR]
  have HR : Hid (cvG (ts.drop 0) 1 0 0 1 = R) := hR
  clear hR
  have hmk : ∀ W : World, (Instr.makeSlice 99 (.int .i64 0) (.int .i64 (ts.length : Int))).run Tryd.prog W = .ok (.slice (some ⟨W.heap.size, 0, none⟩) 0 ts.length) (W.alloc (.cells (madeCells #[.int .i64 0, .int .i64 0] (ts.length * 2)) 57)) := fun W => by
    have h := run_make (P := Tryd.prog) W 99 57 ti _ Tryd.underlying99 hi hz0 .i64 .i64 0 (ts.length : Int) (by omega) (by omega) (by rw [hz2]; omega) (by omega)
    rw [hz1] at h
    simpa [Value.cells] using h
  go_enter Tryd.func93, Tryd.ntmps93
  go_wp2_with fail
  have hV0 : OutF w w.heap.size [] (.slice (some ⟨w.heap.size, 0, none⟩) 0 ts.length) (w.alloc (.cells (madeCells #[.int .i64 0, .int .i64 0] (ts.length * 2)) 57)) := by
    refine ⟨?_, ext1 _ _, by simp⟩
    exact World.ownsRow_made (base := w.heap.size) (size := 2) w _ ts.length (Nat.le_refl _) (by unfold maxLen; omega) (size_madeCells _ _)
  generalize w.alloc (.cells (madeCells #[.int .i64 0, .int .i64 0] (ts.length * 2)) 57) = W0 at *
  have HV0 := Lib.hid hV0
  clear hV0 hmk
  go_loopw [17, 5, 6, 7, 8, 4] (fun s a b x y v wr => ∃ (k : Nat) (p q p0 q0 : Int) (out : List (Int × Int)), k ≤ ts.length ∧ s = .int .i64 k ∧ a = .int .i64 p ∧ b = .int .i64 q ∧ x = .int .i64 p0 ∧ y = .int .i64 q0 ∧ Hid (bil p ∧ bil q ∧ bil p0 ∧ bil q0) ∧ out.length ≤ k ∧ Hid ((cvG (ts.drop k) p q p0 q0).map (out ++ ·) = R) ∧ Hid (OutF w w.heap.size out v wr)) (fun s _ _ _ _ _ _ => ts.length - (intOf s).toNat)
  case atStart => exact ⟨0, 1, 0, 0, 1, [], by omega, rfl, rfl, rfl, rfl, rfl, ⟨⟨by omega, by omega⟩, ⟨by omega, by omega⟩, ⟨by omega, by omega⟩, ⟨by omega, by omega⟩⟩, by simp, by unfold Hid; rw [← HR.out]; simp, HV0.out⟩
  case round =>
    obtain ⟨k, p, q, p0, q0, out, hk, rfl, rfl, rfl, rfl, rfl, HBD, hok, HC, HV⟩ := hrel
    clear HV0 HR
    have hbe := HV.out.2.1
    by_cases hlt : k < ts.length
    · obtain ⟨b, off, rfl, hb, hc⟩ := ((hx.below hbe).more hbe.size) (by omega)
      obtain ⟨t, htk⟩ : ∃ t, ts[k]? = some t := ⟨_, List.getElem?_eq_getElem hlt⟩
      have c1 := hc k t htk
      obtain ⟨t1, t2⟩ := HB.out t (List.mem_of_getElem? htk)
      obtain ⟨⟨p1, p2⟩, ⟨q1, q2⟩, ⟨r1, r2⟩, ⟨s1, s2⟩⟩ := HBD.out
      have HS := Lib.hid (cvG_step (p := p) (q := q) (p0 := p0) (q0 := q0) htk)
      obtain ⟨u1, u2⟩ := mul_bd (x := t) (y := p) (M := 1000000000) (N := 1000000000) (by omega) t2 (by omega) p2 t1 p1
      obtain ⟨u3, u4⟩ := mul_bd (x := t) (y := q) (M := 1000000000) (N := 1000000000) (by omega) t2 (by omega) q2 t1 q1
      have i0 : (0 : Int) ≤ (k : Int) := by omega
      have i1 : (k : Int) < (ts.length : Int) := by omega
      have HVF : Hid (∀ W, Calls Tryd.prog 54 #[fracV (t * p + p0) (t * q + q0)] W fun e w' => e = .returned (.bool (fracOk (t * p + p0) (t * q + q0))) ∧ Below W.heap.size W w') := fun W => ValidFraction_any _ _ W
      clear hc htk
      cases hfo : fracOk (t * p + p0) (t * q + q0)
      · rw [hfo] at HVF
        have HE : Hid (R = none) := by
          have h := HC.out
          rw [HS.out, hfo] at h
          exact h.symm
        clear hfo
        generalize hpp : t * p + p0 = np at *
        generalize hqq : t * q + q0 = nq at *
        have HP := Lib.hid hpp
        have HQ := Lib.hid hqq
        clear HC HS hpp hqq
        unfold fracV at HVF
        go_wp2_with fail
        rw [HP.out, HQ.out]
        refine (HVF.out _).mono ?_
        rintro e w2 ⟨rfl, hb2⟩
        go_wp2
        go_ret2
        rw [HE.out]
        exact RetCv.none_ (ext_trans (ext_alloc hbe _) hb2)
      · rw [hfo] at HVF
        obtain ⟨f1, f2, f3, f4, _⟩ := fracOk_true.1 hfo
        have HN : Hid ((cvG (ts.drop (k + 1)) (t * p + p0) (t * q + q0) p q).map ((out ++ [(t * p + p0, t * q + q0)]) ++ ·) = R) := by
          have h := HC.out
          rw [HS.out, hfo, if_pos rfl] at h
          unfold Hid
          rw [map_snoc]
          exact h
        clear hfo
        generalize hpp : t * p + p0 = np at *
        generalize hqq : t * q + q0 = nq at *
        have HP := Lib.hid hpp
        have HQ := Lib.hid hqq
        clear HC HS hpp hqq
        unfold fracV at HVF
        go_wp2_with fail
        rw [HP.out, HQ.out]
        refine (HVF.out _).mono ?_
        rintro e w2 ⟨rfl, hb2⟩
        have m0 : w2.cell? ⟨wr.heap.size, 0, none⟩ = some (.int .i64 np) := (hb2.cell (p := ⟨wr.heap.size, 0, none⟩) (by simp)).trans (by rw [cell_one]; rfl)
        have m1 : w2.cell? ⟨wr.heap.size, 1, none⟩ = some (.int .i64 nq) := (hb2.cell (p := ⟨wr.heap.size, 1, none⟩) (by simp)).trans (by rw [cell_one]; rfl)
        have HV2 : Hid (OutF w w.heap.size out _ w2) := (OutF.next HV.out (ext_trans (ext1 wr _) hb2))
        have hown := HV2.out.1
        have hbz := HV2.out.2.2
        go_wp2_with (at_builtin; refine wpList_append_own _ rfl _ _ 99 rfl w.heap.size 57 ti (fracV 0 0) 2 16 Tryd.underlying99 HI.out hz0 hz1 hz2 rfl (by decide) _ _ _ rfl (hown.alloc _) ⟨w2.heap.size, 0, none⟩ 1 1 [.int .i64 np, .int .i64 nq] rfl rfl ?c1 ?c2 ?c3 ?c4 ?c5 ?_)
        case c1 => exact news_row w2 _ _ rfl
        case c2 => simp [Value.oneCell']
        case c3 => unfold maxLen; omega
        case c4 => omega
        case c5 => simp; omega
        intro v' w3 hown3 hgrow _
        have HV3 := OutF.push HV2.out (Nat.le_refl _) _ _ hown3 hgrow
        clear hown3 hgrow hown
        go_wp2
        go_roundw
        case rel => exact ⟨k + 1, np, nq, p, q, _, by omega, by go_num, rfl, rfl, rfl, rfl, ⟨⟨by omega, by omega⟩, ⟨by omega, by omega⟩, ⟨p1, p2⟩, ⟨q1, q2⟩⟩, by simp; omega, HN.out, HV3⟩
        case measure => simp [intOf]; omega
    · have HE : Hid (R = some out) := by
        have h := HC.out
        rw [cvG_end hlt] at h
        rw [← h]
        simp [Hid]
      go_wp2
      go_ret2
      rw [HE.out]
      obtain ⟨hown, hbel, hsz⟩ := HV.out
      obtain ⟨hn, A, c, rfl, hw⟩ := Wr.of_ownS hown
      exact ⟨A, c, rfl, hw, hbel⟩
@[reducible] def cvV (p q x y : Int) : Value := .agg #[.int .i64 p, .int .i64 q, .int .i64 x, .int .i64 y]
theorem l03New_any (w : World) : Calls Tryd.prog 115 #[] w fun e w' => e = .returned (cvV 1 0 0 1) ∧ Below w.heap.size w w' := by
  go_enter Tryd.func115, Tryd.ntmps115
  go_wp2
  exact bodyPost_ret (v := cvV 1 0 0 1) (by simp [results, Tryd.results115, go_sem]; done) rfl ⟨rfl, ext1 _ _⟩
theorem l03Next_any (p q x y t : Int) (w : World) (hp : bil p) (hq : bil q) (hx : bil x) (hy : bil y) (ht : bil t) :
    Calls Tryd.prog 133 #[cvV p q x y, .int .i64 t] w fun e w' => e = .returned (cvV (t * p + x) (t * q + y) p q) ∧ Below w.heap.size w w' := by
  obtain ⟨p1, p2⟩ := hp
  obtain ⟨q1, q2⟩ := hq
  obtain ⟨x1, x2⟩ := hx
  obtain ⟨y1, y2⟩ := hy
  obtain ⟨t1, t2⟩ := ht
  obtain ⟨u1, u2⟩ := mul_bd (x := t) (y := p) (M := 1000000000) (N := 1000000000) (by omega) t2 (by omega) p2 t1 p1
  obtain ⟨u3, u4⟩ := mul_bd (x := t) (y := q) (M := 1000000000) (N := 1000000000) (by omega) t2 (by omega) q2 t1 q1
  unfold cvV
  go_enter Tryd.func133, Tryd.ntmps133
  go_wp2
  exact bodyPost_ret (v := cvV (t * p + x) (t * q + y) p q) (by simp [results, Tryd.results133, go_sem]; done) rfl ⟨rfl, ext_alloc (ext1 _ _) _⟩
end Go.Proofs.YtmgfceiomfiknaaDoor
