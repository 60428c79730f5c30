/- Exact law: the program's DriftOf returns what the reference's returns, for all arguments. No condition. -/
import Derived.Test.YtgackmafjcmpbaaDriftOfW
import Derived.Test.YtgackmafjcmpbaaFrame
import Derived.Deep.DeepCutAuto
namespace Go.Proofs.Ytgackmafjcmpbaa.fnExactDriftOf
open Go.ChangeShapes Go.WideShapes Go.ChangeAt Go.RowKit Go.Sort
open Go.ChangeMaps (open_string shut_string)

theorem DS.setG {w W : World} {l c s n d : Int} {b j : Nat} {v : Value} (hb : w.heap.size + 1 < b) (h : DS w l c s n d W) : DS w l c s n d (W.setCell ⟨b, j, none⟩ v) := by
  obtain ⟨h1, h2, h3, h4, h5, h6, h7⟩ := h
  refine ⟨?_, ?_, ?_, ?_, ?_, ext_set h6 (by simp; omega) _, by simpa using h7⟩
  · exact (World.cell?_setCell_other _ _ _ _ (by simp <;> omega)).trans h1
  · exact (World.cell?_setCell_other _ _ _ _ (by simp <;> omega)).trans h2
  · exact (World.cell?_setCell_other _ _ _ _ (by simp <;> omega)).trans h3
  · exact (World.cell?_setCell_other _ _ _ _ (by simp <;> omega)).trans h4
  · exact (World.cell?_setCell_other _ _ _ _ (by simp <;> omega)).trans h5

theorem meetS {w W : World} {l c s n d : Int} {g : Nat} {x y a b : Value} (h : DS w l c s n d W) (hg : w.heap.size + 1 < g) (hz : g < W.heap.size) (m0 : W.cell? ⟨g, 0, none⟩ = some a) (m1 : W.cell? ⟨g, 1, none⟩ = some b) :
    ((W.setCell ⟨g, 0, none⟩ x).setCell ⟨g, 1, none⟩ y).cell? ⟨g, 0, none⟩ = some x ∧ ((W.setCell ⟨g, 0, none⟩ x).setCell ⟨g, 1, none⟩ y).cell? ⟨g, 1, none⟩ = some y ∧ g < ((W.setCell ⟨g, 0, none⟩ x).setCell ⟨g, 1, none⟩ y).heap.size ∧ DS w l c s n d ((W.setCell ⟨g, 0, none⟩ x).setCell ⟨g, 1, none⟩ y) := by
  obtain ⟨s0, s1⟩ := set_two m0 m1
  exact ⟨(World.cell?_setCell_other _ _ _ _ (by simp)).trans (s0 x), s1 x y, by simpa using hz, DS.setG hg (DS.setG hg h)⟩

/-- Two fractions that a statement holds, in blocks g and h. -/
structure Two (V W : World) (g : Nat) (a b : Value) (h : Nat) (x y : Value) : Prop where
  g0 : W.cell? ⟨g, 0, none⟩ = some a
  g1 : W.cell? ⟨g, 1, none⟩ = some b
  gz : g < W.heap.size
  h0 : W.cell? ⟨h, 0, none⟩ = some x
  h1 : W.cell? ⟨h, 1, none⟩ = some y
  hz : h < W.heap.size
  be : Below V.heap.size V W
theorem two_set {V W : World} {g h : Nat} {a b x y p q : Value} (g0 : V.cell? ⟨g, 0, none⟩ = some a) (g1 : V.cell? ⟨g, 1, none⟩ = some b) (gz : g < V.heap.size) (E : Below V.heap.size V W) (hh : V.heap.size ≤ h) (hz : h < W.heap.size)
    (m0 : W.cell? ⟨h, 0, none⟩ = some p) (m1 : W.cell? ⟨h, 1, none⟩ = some q) : Two V ((W.setCell ⟨h, 0, none⟩ x).setCell ⟨h, 1, none⟩ y) g a b h x y := by
  obtain ⟨s0, s1⟩ := set_two m0 m1
  refine ⟨?_, ?_, by have := E.size; simp; omega, (World.cell?_setCell_other _ _ _ _ (by simp)).trans (s0 x), s1 x y, by simpa using hz, ext_set (ext_set E (by simpa using hh) _) (by simpa using hh) _⟩
  · exact (World.cell?_setCell_other _ _ _ _ (by simp <;> omega)).trans ((World.cell?_setCell_other _ _ _ _ (by simp <;> omega)).trans ((E.cell (p := ⟨g, 0, none⟩) gz).trans g0))
  · exact (World.cell?_setCell_other _ _ _ _ (by simp <;> omega)).trans ((World.cell?_setCell_other _ _ _ _ (by simp <;> omega)).trans ((E.cell (p := ⟨g, 1, none⟩) gz).trans g1))
theorem two_new {V W : World} {g : Nat} {a b x y : Value} {T : TypeId} (g0 : V.cell? ⟨g, 0, none⟩ = some a) (g1 : V.cell? ⟨g, 1, none⟩ = some b) (gz : g < V.heap.size) (E : Below V.heap.size V W) : Two V (W.alloc (.cells #[x, y] T)) g a b W.heap.size x y := by
  have E' := ext_alloc E (.cells #[x, y] T)
  exact ⟨(E'.cell (p := ⟨g, 0, none⟩) gz).trans g0, (E'.cell (p := ⟨g, 1, none⟩) gz).trans g1, Nat.lt_of_lt_of_le gz E'.size, by rw [cell_one]; rfl, by rw [cell_one]; rfl, by simp, E'⟩

/-- What the second statement leaves. -/
def Rel2 (V : World) (g : Nat) (a b : Int) (code : Int) (p q : Value) (wx : World) : Prop :=
  ∃ h : Nat, p = .pointer (some ⟨h, 0, none⟩) ∧ q = .int .i64 code ∧ Two V wx g (.int .i64 a) (.int .i64 b) h (.int .i64 a) (.int .i64 b)
/-- What the first one leaves. -/
def Rel1 (w : World) (l c s n d : Int) (a b : Int) (code : Int) (p q : Value) (wx : World) : Prop :=
  ∃ g : Nat, p = .pointer (some ⟨g, 0, none⟩) ∧ q = .int .i64 code ∧ wx.cell? ⟨g, 0, none⟩ = some (.int .i64 a) ∧ wx.cell? ⟨g, 1, none⟩ = some (.int .i64 b) ∧ g < wx.heap.size ∧ DS w l c s n d wx

set_option maxHeartbeats 16000000 in
theorem walk (l c s n d y : Int) (w : World) (_ : (Lit.int .i64 l).wf = true) (_ : (Lit.int .i64 c).wf = true) (_ : (Lit.int .i64 s).wf = true) (_ : (Lit.int .i64 n).wf = true) (_ : (Lit.int .i64 d).wf = true) (_ : (Lit.int .i64 y).wf = true) :
    Calls Try.prog 3 #[ruleV l c s, fracV n d, .int .i64 y] w fun e w' => e = .returned (.bool true) ∧ Below w.heap.size w w' := by
  have D0 := DS.new w l c s n d 23 25
  have HS := Lib.hid (sDriftOf_any l c s n d y)
  have HI := Lib.hid (iDriftOf_any l c s n d y)
  generalize drN l c s n d y = rn at *
  generalize drD l c s n d y = rd at *
  generalize drC l c s n d y = rc at *
  go_enter Try.func3, Try.ntmps3
  go_upto_region 1 with fail
  generalize (w.alloc _).alloc _ = W at *
  go_cut [7, 8] (fun p q wx => Rel1 w l c s n d rn rd rc p q wx)
  case first =>
    obtain ⟨x1, x2, x3, x4, x5, x6, x7⟩ := id D0
    go_region_held3 (fun w' => w'.cell? ⟨w.heap.size, 0, none⟩ = some (.int .i64 l) ∧ w'.cell? ⟨w.heap.size, 1, none⟩ = some (.int .i64 c) ∧ w'.cell? ⟨w.heap.size, 2, none⟩ = some (.int .i64 s) ∧ w'.cell? ⟨w.heap.size + 1, 0, none⟩ = some (.int .i64 n) ∧ w'.cell? ⟨w.heap.size + 1, 1, none⟩ = some (.int .i64 d) ∧ Below w.heap.size w w' ∧ w.heap.size + 1 < w'.heap.size)
      (first | exact D0.drew | exact HS3 | exact DS.next HS3 (ext1 _ _) | exact DS.next (by assumption) (by assumption) | exact DS.next (by assumption) (ext1 _ _) | exact DS.setG (by omega) (DS.setG (by omega) (by assumption)))
      (first
        | (go_at_call 7; (with_reducible refine (toLeapRule_any l c s _).mono ?_); rintro e w1 ⟨rfl, hb1⟩; obtain ⟨hc1, hf1⟩ := bcell hb1; have y1 := hb1.size; (try simp at y1); (try have v1 : W.heap.size < w1.heap.size := by omega))
        | (go_at_call 8; (with_reducible refine (toFraction_any n d _).mono ?_); rintro e w2 ⟨rfl, hb2⟩; obtain ⟨hc2, hf2⟩ := bcell hb2; have y2 := hb2.size; (try simp only [World.size_alloc] at y2); (try have v12 : w1.heap.size < w2.heap.size := by omega); (try have v2 : W.heap.size < w2.heap.size := by omega))
        | (go_at_call 6; (with_reducible refine (HS.out _).mono ?_); rintro e w3 ⟨rfl, hb3⟩; have HS3 : DS w l c s n d w3 := DS.next (by assumption) hb3; obtain ⟨hc3, hf3⟩ := bcell hb3; have y3 := hb3.size; (try simp only [World.size_alloc] at y3); (try have v23 : w2.heap.size < w3.heap.size := by omega); (try have v31 : W.heap.size < w3.heap.size := by omega); (try have v32 : w1.heap.size < w3.heap.size := by omega)))
    all_goals go_wp2_with fail
    all_goals go_meet
    all_goals first
      | exact ⟨w3.heap.size, rfl, rfl, by rw [cell_one]; rfl, by rw [cell_one]; rfl, by simp, DS.next HS3 (ext1 _ _)⟩
      | exact ⟨w2.heap.size, rfl, rfl, meetS HS3 (by omega) (by omega) (by rw [hc3 _ _ (by simp), cell_one]; rfl) (by rw [hc3 _ _ (by simp), cell_one]; rfl)⟩
      | exact ⟨w1.heap.size, rfl, rfl, meetS HS3 (by omega) (by omega) (by rw [hc3 _ _ (by omega), hc2 _ _ (by simp), cell_one]; rfl) (by rw [hc3 _ _ (by omega), hc2 _ _ (by simp), cell_one]; rfl)⟩
      | exact ⟨W.heap.size, rfl, rfl, meetS HS3 (by omega) (by omega) ((hc3 _ _ (by omega)).trans ((hc2 _ _ (by omega)).trans ((hc1 _ _ (by simp)).trans (cell_one W.drew _ _ _)))) ((hc3 _ _ (by omega)).trans ((hc2 _ _ (by omega)).trans ((hc1 _ _ (by simp)).trans (cell_one W.drew _ _ _))))⟩
  case rest =>
    obtain ⟨g, rfl, rfl, g0, g1, gz, D1⟩ := hcut
    clear D0
    obtain ⟨V, hV⟩ : ∃ V : World, V = wc := ⟨_, rfl⟩
    subst hV
    go_upto_region 2 with fail
    go_cut [9, 10] (fun p q wx => Rel2 V g rn rd rc p q wx)
    case first =>
      obtain ⟨x1, x2, x3, x4, x5, x6, x7⟩ := id D1
      go_region_held3 (fun w' => w'.cell? ⟨w.heap.size, 0, none⟩ = some (.int .i64 l) ∧ w'.cell? ⟨w.heap.size, 1, none⟩ = some (.int .i64 c) ∧ w'.cell? ⟨w.heap.size, 2, none⟩ = some (.int .i64 s) ∧ w'.cell? ⟨w.heap.size + 1, 0, none⟩ = some (.int .i64 n) ∧ w'.cell? ⟨w.heap.size + 1, 1, none⟩ = some (.int .i64 d) ∧ Below w.heap.size w w' ∧ w.heap.size + 1 < w'.heap.size)
        (first | exact D1.drew | exact HS3 | exact DS.next HS3 (ext1 _ _) | exact DS.next (by assumption) (by assumption) | exact DS.next (by assumption) (ext1 _ _) | exact DS.setG (by omega) (DS.setG (by omega) (by assumption)))
        (first
          | (go_at_call 7; (with_reducible refine (toLeapRule_any l c s _).mono ?_); rintro e w1 ⟨rfl, hb1⟩; obtain ⟨hc1, hf1⟩ := bcell hb1; have y1 := hb1.size; (try simp at y1); (try have v1 : V.heap.size < w1.heap.size := by omega))
          | (go_at_call 8; (with_reducible refine (toFraction_any n d _).mono ?_); rintro e w2 ⟨rfl, hb2⟩; obtain ⟨hc2, hf2⟩ := bcell hb2; have y2 := hb2.size; (try simp only [World.size_alloc] at y2); (try have v12 : w1.heap.size < w2.heap.size := by omega); (try have v2 : V.heap.size < w2.heap.size := by omega))
          | (go_at_call 9; (with_reducible refine (HI.out _).mono ?_); rintro e w3 ⟨rfl, hb3⟩; have HS3 : DS w l c s n d w3 := DS.next (by assumption) hb3; obtain ⟨hc3, hf3⟩ := bcell hb3; have y3 := hb3.size; (try simp only [World.size_alloc] at y3); (try have v23 : w2.heap.size < w3.heap.size := by omega); (try have v31 : V.heap.size < w3.heap.size := by omega); (try have v32 : w1.heap.size < w3.heap.size := by omega)))
      all_goals go_wp2_with fail
      all_goals go_meet
      all_goals
        have E3 : Below V.heap.size V w3 := by
          repeat (first | exact Below.refl _ _ | assumption | refine ext_alloc ?_ _ | refine ext_drew ?_ | refine ext_trans ?_ (by assumption))
        first
          | exact ⟨w3.heap.size, rfl, rfl, two_new g0 g1 gz E3⟩
          | exact ⟨w2.heap.size, rfl, rfl, two_set g0 g1 gz E3 (by omega) (by omega) (by rw [hc3 _ _ (by simp), cell_one]; rfl) (by rw [hc3 _ _ (by simp), cell_one]; rfl)⟩
          | exact ⟨w1.heap.size, rfl, rfl, two_set g0 g1 gz E3 (by omega) (by omega) (by rw [hc3 _ _ (by omega), hc2 _ _ (by simp), cell_one]; rfl) (by rw [hc3 _ _ (by omega), hc2 _ _ (by simp), cell_one]; rfl)⟩
          | exact ⟨V.heap.size, rfl, rfl, two_set g0 g1 gz E3 (by omega) (by omega) ((hc3 _ _ (by omega)).trans ((hc2 _ _ (by omega)).trans ((hc1 _ _ (by simp)).trans (cell_one V.drew _ _ _)))) ((hc3 _ _ (by omega)).trans ((hc2 _ _ (by omega)).trans ((hc1 _ _ (by simp)).trans (cell_one V.drew _ _ _))))⟩
    case rest =>
      obtain ⟨h, rfl, rfl, g0', g1', gz', h0, h1, hz, be⟩ := hcut
      have hb := ext_trans D1.2.2.2.2.2.1 be
      clear D1 g0 g1 gz be
      go_wp2_with fail
      refine (eqFraction_any rn rd _).mono ?_
      rintro e w5 ⟨rfl, hb5⟩
      go_wp2
      go_ret
      exact ⟨rfl, ext_trans hb hb5⟩

theorem own : ownKnob Try.prog.godebug = none := by kernel_rfl
theorem laidOut : laidOutB Try.prog = true := by kernel_rfl
set_option linter.unusedVariables false in
set_option maxRecDepth 100000 in
theorem lifted (os : Os) (started : os.Started) (H : Type) (enc : TypeId × Value → H) :
    ReturnsInHanded {} Try.checked os 3 .any (Rows.fnExactDriftOfSpec.pre6 enc Try.prog Try.f3 Rows.fnExactDriftOfRow.domain false) (Rows.fnExactDriftOfSpec.post enc Try.prog Try.f3 false true false false) := by
  refine returnsInHanded_of_change (C := Try.checked) own started (by kernel_rfl) Try.func3
    (ChangeSpec.witness6 (enc := enc) (C := Try.checked) false ⟨#[], #[.agg #[.int .i64 0, .int .i64 0, .int .i64 0], .agg #[.int .i64 0, .int .i64 0], .int .i64 0], []⟩ 8 (by kernel_rfl) (by kernel_rfl) (by kernel_rfl) (by kernel_rfl)) ?_
  intro W base args ds gs before hval0 hW hcnd _
  have hval : ∀ (j : Nat) t v, Try.f3.params[j]? = some t → args[j]? = some v → Value.okWide Try.prog W .any base t v := hval0
  have hW' := hW
  obtain ⟨p, q, hA0, hV, rfl, hfz, hnd⟩ := hW
  have hA : DataW.TrodAll enc Try.prog W 0 (fun _ => true) true Try.f3.params.toList args.toList ds p := hA0
  rw [Try.params3] at hA hval
  obtain ⟨v0, vs0, d0, ds0, p0, q0, hargs, rfl, rfl, h0, r0⟩ := trodAll_cons hA
  obtain ⟨v1, vs1, d1, ds1, p1, q1, rfl, rfl, rfl, h1, r1⟩ := trodAll_cons r0
  obtain ⟨v2, vs2, d2, ds2, p2, q2, rfl, rfl, rfl, h2, r2⟩ := trodAll_cons r1
  obtain ⟨rfl, rfl, rfl⟩ := trodAll_nil r2
  obtain rfl : args = #[v0, v1, v2] := by cases args; simp_all
  obtain ⟨rfl, rfl⟩ := trodVars_none hV
  have k0 := h0
  have lt0 : ∀ x ∈ p0, x.block < W.heap.size := by obtain ⟨m, hm⟩ := k0; exact DataW.trod_lt m _ _ _ hm
  obtain ⟨u0_0, u0_1, u0_2, y0_0, y0_1, y0_2, n0, rfl, _, _, g0_0, g0_1, g0_2⟩ := Joins.open_agg3 Try.underlying23 (by kernel_rfl) (by kernel_rfl) (hval 0 23 v0 rfl rfl) h0
  obtain ⟨f0_0, ef0_0, _, wf0_0⟩ := DataW.trod_int Try.underlying2 g0_0
  simp only [List.cons.injEq, and_true] at ef0_0
  subst ef0_0
  obtain ⟨f0_1, ef0_1, _, wf0_1⟩ := DataW.trod_int Try.underlying2 g0_1
  simp only [List.cons.injEq, and_true] at ef0_1
  subst ef0_1
  obtain ⟨f0_2, ef0_2, _, wf0_2⟩ := DataW.trod_int Try.underlying2 g0_2
  simp only [List.cons.injEq, and_true] at ef0_2
  subst ef0_2
  have k1 := h1
  have lt1 : ∀ x ∈ p1, x.block < W.heap.size := by obtain ⟨m, hm⟩ := k1; exact DataW.trod_lt m _ _ _ hm
  obtain ⟨u1_0, u1_1, y1_0, y1_1, n1, rfl, _, _, g1_0, g1_1⟩ := Joins.open_agg2 Try.underlying25 (by kernel_rfl) (by kernel_rfl) (hval 1 25 v1 rfl rfl) h1
  obtain ⟨f1_0, ef1_0, _, wf1_0⟩ := DataW.trod_int Try.underlying2 g1_0
  simp only [List.cons.injEq, and_true] at ef1_0
  subst ef1_0
  obtain ⟨f1_1, ef1_1, _, wf1_1⟩ := DataW.trod_int Try.underlying2 g1_1
  simp only [List.cons.injEq, and_true] at ef1_1
  subst ef1_1
  have k2 := h2
  have lt2 : ∀ x ∈ p2, x.block < W.heap.size := by obtain ⟨m, hm⟩ := k2; exact DataW.trod_lt m _ _ _ hm
  obtain ⟨a2, rfl, rfl, rfl, w2⟩ := open_int Try.underlying2 (hval 2 2 v2 rfl rfl) h2
  clear hA0 hval0
  refine (walk f0_0 f0_1 f0_2 f1_0 f1_1 a2 W wf0_0 wf0_1 wf0_2 wf1_0 wf1_1 w2).mono fun e W' ⟨he, bel⟩ => ?_
  subst he
  exact ⟨_, rfl, _, _, _, [], _, [], hW', trodAll_mk1 (shut_bool Try.underlying4 _), (trodAll_cons_mk (Below.trod laidOut (by kernel_rfl) (of_decide_eq_true (by kernel_rfl)) k0 bel lt0) (trodAll_cons_mk (Below.trod laidOut (by kernel_rfl) (of_decide_eq_true (by kernel_rfl)) k1 bel lt1) (trodAll_cons_mk (Below.trod laidOut (by kernel_rfl) (of_decide_eq_true (by kernel_rfl)) k2 bel lt2) trodAll_mk0))), rfl, bel.frame _, fun h => by cases h⟩

theorem over : Rows.fnExactDriftOfRow.holds Try.pinned (OpenSpec.ofChange Rows.fnExactDriftOfSpec) :=
  OpenClaim.holds_of_wide 3 Try.f3 rfl rfl rfl rfl rfl rfl rfl ⟨rfl, rfl, rfl, rfl, rfl⟩ rfl rfl rfl rfl rfl (by kernel_rfl) Try.func3 (by kernel_rfl)
    (of_decide_eq_true (by kernel_rfl)) (by unfold Func.isWrapper; first | (rw [if_pos (by decide +kernel)]; kernel_rfl) | (rw [if_neg (by decide +kernel)]; exact ⟨rfl, rfl⟩))
    (fun os started H enc _ => lifted os started H enc)

theorem proved : Rows.FnExactDriftOfSaid := over
#print axioms proved
end Go.Proofs.Ytgackmafjcmpbaa.fnExactDriftOf
