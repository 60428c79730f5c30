/- Exact law: the program's ProveBest returns what the reference's returns, for all arguments. No condition. -/
import Derived.Test.YtnpdpippnhikkaaProveBW
import Derived.Test.YtnpdpippnhikkaaFrame
import Derived.Deep.DeepCutAuto
namespace Go.Proofs.Ytnpdpippnhikkaa.fnExactProveBest
open Go.ChangeShapes Go.WideShapes Go.ChangeAt Go.RowKit Go.Sort
open Go.ChangeMaps (open_string shut_string)

/-- Both arguments lie in the first two blocks. -/
def PB (w : World) (n d p q : Int) (W : World) : Prop :=
  W.cell? ⟨w.heap.size, 0, none⟩ = some (.int .i64 n) ∧ W.cell? ⟨w.heap.size, 1, none⟩ = some (.int .i64 d) ∧ W.cell? ⟨w.heap.size + 1, 0, none⟩ = some (.int .i64 p) ∧ W.cell? ⟨w.heap.size + 1, 1, none⟩ = some (.int .i64 q) ∧ Below w.heap.size w W ∧ w.heap.size + 1 < W.heap.size
theorem PB.new (w : World) (n d p q : Int) (T : TypeId) : PB w n d p q ((w.alloc (.cells #[.int .i64 n, .int .i64 d] T)).alloc (.cells #[.int .i64 p, .int .i64 q] T)) :=
  ⟨by rw [cell_two_fst]; rfl, by rw [cell_two_fst]; rfl, by rw [cell_two_snd]; rfl, by rw [cell_two_snd]; rfl, ext_alloc (ext1 _ _) _, by simp⟩
theorem PB.next {w : World} {n d p q : Int} {W W' : World} (h : PB w n d p q W) (hb : Below W.heap.size W W') : PB w n d p q W' := by
  obtain ⟨h1, h2, h3, h4, h5, h6⟩ := h
  exact ⟨(hb.cell (p := ⟨w.heap.size, 0, none⟩) (by simp; omega)).trans h1, (hb.cell (p := ⟨w.heap.size, 1, none⟩) (by simp; omega)).trans h2, (hb.cell (p := ⟨w.heap.size + 1, 0, none⟩) h6).trans h3, (hb.cell (p := ⟨w.heap.size + 1, 1, none⟩) h6).trans h4, ext_trans h5 hb, Nat.lt_of_lt_of_le h6 hb.size⟩
theorem PB.drew {w : World} {n d p q : Int} {W : World} (h : PB w n d p q W) : PB w n d p q W.drew := h.next (ext_drew (Below.refl _ _))
theorem PB.setG {w W : World} {n d p q : Int} {b j : Nat} {v : Value} (hb : w.heap.size + 1 < b) (h : PB w n d p q W) : PB w n d p q (W.setCell ⟨b, j, none⟩ v) := by
  obtain ⟨h1, h2, h3, h4, h5, h6⟩ := h
  refine ⟨?_, ?_, ?_, ?_, ext_set h5 (by simp; omega) _, by simpa using h6⟩
  · exact (World.cell?_setCell_other _ _ _ _ (by simp <;> omega)).trans h1
  · exact (World.cell?_setCell_other _ _ _ _ (by simp <;> omega)).trans h2
  · exact (World.cell?_setCell_other _ _ _ _ (by simp <;> omega)).trans h3
  · exact (World.cell?_setCell_other _ _ _ _ (by simp <;> omega)).trans h4
/-- A certificate's variable. -/
def CB (g : Nat) (kk : Int) (A : Option Addr) (n c : Nat) (W : World) : Prop := W.cell? ⟨g, 0, none⟩ = some (.int .i64 kk) ∧ W.cell? ⟨g, 1, none⟩ = some (.slice A n c) ∧ g < W.heap.size
theorem CB.next {g : Nat} {kk : Int} {A : Option Addr} {n c : Nat} {W W' : World} (h : CB g kk A n c W) (hb : Below W.heap.size W W') : CB g kk A n c W' :=
  ⟨(hb.cell (p := ⟨g, 0, none⟩) h.2.2).trans h.1, (hb.cell (p := ⟨g, 1, none⟩) h.2.2).trans h.2.1, Nat.lt_of_lt_of_le h.2.2 hb.size⟩
/-- What a statement leaves that calls for a certificate and a code. -/
def RelC (V : World) (kk : Int) (xs : List Int) (code : Int) (x y : Value) (wx : World) : Prop :=
  ∃ (h : Nat) (B : Option Addr) (c : Nat), x = .pointer (some ⟨h, 0, none⟩) ∧ y = .int .i64 code ∧ CB h kk B xs.length c wx ∧ Wr (Value.int .i64) wx V.heap.size B xs ∧ (0 < xs.length → ∃ b off, B = some ⟨b, off, none⟩ ∧ h ≠ b) ∧ V.heap.size ≤ h ∧ Below V.heap.size V wx
theorem relC_new {V W W' : World} {kk : Int} {xs : List Int} {code : Int} {B : Option Addr} {c : Nat} {T : TypeId} (E : Below V.heap.size V W') (hw : Wr (Value.int .i64) W' W.heap.size B xs) (hs : V.heap.size ≤ W.heap.size) :
    RelC V kk xs code (.pointer (some ⟨W'.heap.size, 0, none⟩)) (.int .i64 code) (W'.alloc (.cells #[.int .i64 kk, .slice B xs.length c] T)) :=
  ⟨_, B, c, rfl, rfl, ⟨by rw [cell_one]; rfl, by rw [cell_one]; rfl, by simp⟩, (hw.below (ext1 _ _)).more hs, hw.apart (Nat.le_refl _), E.size, ext_alloc E _⟩
theorem relC_set {V W W' : World} {kk : Int} {xs : List Int} {code : Int} {B : Option Addr} {c h : Nat} {a b : Value} (E : Below V.heap.size V W') (hw : Wr (Value.int .i64) W' W.heap.size B xs) (hs : h < W.heap.size) (hV : V.heap.size ≤ h)
    (hW : W.heap.size ≤ W'.heap.size) (m0 : W'.cell? ⟨h, 0, none⟩ = some a) (m1 : W'.cell? ⟨h, 1, none⟩ = some b) :
    RelC V kk xs code (.pointer (some ⟨h, 0, none⟩)) (.int .i64 code) ((W'.setCell ⟨h, 0, none⟩ (.int .i64 kk)).setCell ⟨h, 1, none⟩ (.slice B xs.length c)) := by
  obtain ⟨s0, s1⟩ := set_two m0 m1
  refine ⟨h, B, c, rfl, rfl, ⟨(World.cell?_setCell_other _ _ _ _ (by simp)).trans (s0 _), s1 _ _, by simp; omega⟩, ((hw.setLow (by exact hs) _).setLow (by exact hs) _).more (by omega), fun hp => ?_, hV, ext_set (ext_set E (by exact hV) _) (by exact hV) _⟩
  obtain ⟨b, off, e, h1, _⟩ := hw hp
  exact ⟨b, off, e, by omega⟩

set_option maxHeartbeats 16000000 in
theorem walkG (n d p q : Int) (kk : Int) (xs : List Int) (code : Int) (w : World) (hl : xs.length ≤ 8)
    (HS : Hid (∀ W, Calls Try.prog 14 #[fracV n d, fracV p q] W (RetCertC W kk xs code))) (HI : Hid (∀ W, Calls Try.prog 16 #[fracV n d, fracV p q] W (RetCertC W kk xs code))) :
    Calls Try.prog 3 #[fracV n d, fracV p q] w fun e w' => e = .returned (.bool true) ∧ Below w.heap.size w w' := by
  have PD := PB.new w n d p q 23
  go_enter Try.func3, Try.ntmps3
  go_upto_region 1 with fail
  generalize (w.alloc _).alloc _ = V at *
  go_cut [5, 6] (fun x y wx => RelC V kk xs code x y wx)
  case first =>
    have HF := HS
    obtain ⟨x1, x2, x3, x4, x5, x6⟩ := id PD
    go_region_held3 (fun w' => w'.cell? ⟨w.heap.size, 0, none⟩ = some (.int .i64 n) ∧ w'.cell? ⟨w.heap.size, 1, none⟩ = some (.int .i64 d) ∧ w'.cell? ⟨w.heap.size + 1, 0, none⟩ = some (.int .i64 p) ∧ w'.cell? ⟨w.heap.size + 1, 1, none⟩ = some (.int .i64 q) ∧ Below w.heap.size w w' ∧ w.heap.size + 1 < w'.heap.size)
      (first | exact PD.drew | exact HS3 | exact PB.next HS3 (ext1 _ _) | exact PB.next (by assumption) (by assumption) | exact PB.next (by assumption) (ext1 _ _) | exact PB.setG (by omega) (PB.setG (by omega) (by assumption)))
      (first
        | (go_at_call 15; (with_reducible refine (toFraction_any n d _).mono ?_); rintro e w1 ⟨rfl, hb1⟩; obtain ⟨hc1, hf1⟩ := bcell hb1; have y1 := hb1.size; (try simp at y1); (try have v1 : V.heap.size < w1.heap.size := by omega))
        | (go_at_call 15; (with_reducible refine (toFraction_any p q _).mono ?_); rintro e w2 ⟨rfl, hb2⟩; obtain ⟨hc2, hf2⟩ := bcell hb2; have y2 := hb2.size; (try simp only [World.size_alloc] at y2); (try have v12 : w1.heap.size < w2.heap.size := by omega); (try have v2 : V.heap.size < w2.heap.size := by omega))
        | (go_at_call 14; (with_reducible refine (HF.out _).mono ?_); rintro e w3 ⟨B, cc, rfl, hw3, hb3⟩; have HS3 : PB w n d p q w3 := PB.next (by assumption) hb3; have hw3 := Lib.hid hw3; obtain ⟨hc3, hf3⟩ := bcell hb3; have y3 := hb3.size; (try simp only [World.size_alloc] at y3); (try have v23 : w2.heap.size < w3.heap.size := by omega); (try have v31 : V.heap.size < w3.heap.size := by omega); (try have v32 : w1.heap.size < w3.heap.size := by omega)))
    all_goals go_wp2_with fail
    all_goals go_meet
    all_goals
      have E3 : Below V.heap.size V w3 := by
        repeat (first | exact Below.refl _ _ | assumption | refine ext_alloc ?_ _ | refine ext_drew ?_ | refine ext_trans ?_ (by assumption))
      first
        | exact relC_new E3 hw3.out (by omega)
        | exact relC_set (h := w2.heap.size) E3 hw3.out (by simp) (by omega) hb3.size (by rw [hc3 _ _ (by simp), cell_one]; rfl) (by rw [hc3 _ _ (by simp), cell_one]; rfl)
        | exact relC_set (h := w1.heap.size) E3 hw3.out (by omega) (by omega) hb3.size (by rw [hc3 _ _ (by omega), hc2 _ _ (by simp), cell_one]; rfl) (by rw [hc3 _ _ (by omega), hc2 _ _ (by simp), cell_one]; rfl)
        | exact relC_set (h := V.heap.size) E3 hw3.out (by omega) (by omega) hb3.size ((hc3 _ _ (by omega)).trans ((hc2 _ _ (by omega)).trans ((hc1 _ _ (by simp)).trans (cell_one V.drew _ _ _)))) ((hc3 _ _ (by omega)).trans ((hc2 _ _ (by omega)).trans ((hc1 _ _ (by simp)).trans (cell_one V.drew _ _ _))))
  case rest =>
    obtain ⟨g, A, c, rfl, rfl, cS, wS, _, hg, E1⟩ := hcut
    have PD := PD.next E1
    have rS := wS.rd
    clear wS
    have W0 := Lib.hid (ext_trans PD.2.2.2.2.1 (Below.refl _ _))
    clear E1 hg
    obtain ⟨V0, hV0⟩ : ∃ V0 : World, V0 = V := ⟨_, rfl⟩
    clear hV0
    obtain ⟨V, hV⟩ : ∃ V : World, V = wc := ⟨_, rfl⟩
    subst hV
    go_upto_region 2 with fail
    go_cut [7, 8] (fun x y wx => RelC V kk xs code x y wx)
    case first =>
      have HF := HI
      obtain ⟨x1, x2, x3, x4, x5, x6⟩ := id PD
      go_region_held3 (fun w' => w'.cell? ⟨w.heap.size, 0, none⟩ = some (.int .i64 n) ∧ w'.cell? ⟨w.heap.size, 1, none⟩ = some (.int .i64 d) ∧ w'.cell? ⟨w.heap.size + 1, 0, none⟩ = some (.int .i64 p) ∧ w'.cell? ⟨w.heap.size + 1, 1, none⟩ = some (.int .i64 q) ∧ Below w.heap.size w w' ∧ w.heap.size + 1 < w'.heap.size)
        (first | exact PD.drew | exact HS3 | exact PB.next HS3 (ext1 _ _) | exact PB.next (by assumption) (by assumption) | exact PB.next (by assumption) (ext1 _ _) | exact PB.setG (by omega) (PB.setG (by omega) (by assumption)))
        (first
          | (go_at_call 15; (with_reducible refine (toFraction_any n d _).mono ?_); rintro e w1 ⟨rfl, hb1⟩; obtain ⟨hc1, hf1⟩ := bcell hb1; have y1 := hb1.size; (try simp at y1); (try have v1 : V.heap.size < w1.heap.size := by omega))
          | (go_at_call 15; (with_reducible refine (toFraction_any p q _).mono ?_); rintro e w2 ⟨rfl, hb2⟩; obtain ⟨hc2, hf2⟩ := bcell hb2; have y2 := hb2.size; (try simp only [World.size_alloc] at y2); (try have v12 : w1.heap.size < w2.heap.size := by omega); (try have v2 : V.heap.size < w2.heap.size := by omega))
          | (go_at_call 16; (with_reducible refine (HF.out _).mono ?_); rintro e w3 ⟨B, cc, rfl, hw3, hb3⟩; have HS3 : PB w n d p q w3 := PB.next (by assumption) hb3; have hw3 := Lib.hid hw3; obtain ⟨hc3, hf3⟩ := bcell hb3; have y3 := hb3.size; (try simp only [World.size_alloc] at y3); (try have v23 : w2.heap.size < w3.heap.size := by omega); (try have v31 : V.heap.size < w3.heap.size := by omega); (try have v32 : w1.heap.size < w3.heap.size := by omega)))
      all_goals go_wp2_with fail
      all_goals go_meet
      all_goals
        have E3 : Below V.heap.size V w3 := by
          repeat (first | exact Below.refl _ _ | assumption | refine ext_alloc ?_ _ | refine ext_drew ?_ | refine ext_trans ?_ (by assumption))
        first
          | exact relC_new E3 hw3.out (by omega)
          | exact relC_set (h := w2.heap.size) E3 hw3.out (by simp) (by omega) hb3.size (by rw [hc3 _ _ (by simp), cell_one]; rfl) (by rw [hc3 _ _ (by simp), cell_one]; rfl)
          | exact relC_set (h := w1.heap.size) E3 hw3.out (by omega) (by omega) hb3.size (by rw [hc3 _ _ (by omega), hc2 _ _ (by simp), cell_one]; rfl) (by rw [hc3 _ _ (by omega), hc2 _ _ (by simp), cell_one]; rfl)
          | exact relC_set (h := V.heap.size) E3 hw3.out (by omega) (by omega) hb3.size ((hc3 _ _ (by omega)).trans ((hc2 _ _ (by omega)).trans ((hc1 _ _ (by simp)).trans (cell_one V.drew _ _ _)))) ((hc3 _ _ (by omega)).trans ((hc2 _ _ (by omega)).trans ((hc1 _ _ (by simp)).trans (cell_one V.drew _ _ _))))
    case rest =>
      obtain ⟨h, B, c2, rfl, rfl, cI, wI, aI, hh, E2⟩ := hcut
      have hW0 := PD.2.2.2.2.1
      have hVz : w.heap.size ≤ V.heap.size := by have := PD.2.2.2.2.2; omega
      have HA := Lib.hid (fun (W : World) (E : Below V.heap.size V W) => And.intro (cS.next E) (And.intro ((rS.below E).more E.size) (PD.next E)))
      have hm : xs.length ≤ maxLen := by unfold maxLen; omega
      obtain ⟨cS2, rS2, PD2⟩ := HA.out _ E2
      clear PD cS rS W0 hW0
      obtain ⟨s0, s1, sz⟩ := id cS2
      obtain ⟨t0, t1, tz⟩ := id cI
      go_wp2_with fail
      refine (eqCertificate_any kk B A c2 c xs _ wI.rd rS2 hm).mono ?_
      rintro e w5 ⟨rfl, hb5⟩
      have cI5 := cI.next hb5
      have wI5 := wI.below hb5
      have E5 := ext_trans E2 hb5
      have hs5 : V.heap.size ≤ w5.heap.size := E5.size
      clear s0 s1 sz t0 t1 tz cS2 rS2 PD2 cI wI E2 hb5
      obtain ⟨t0, t1, tz⟩ := id cI5
      go_wp2_with fail
      refine (markCertificate_any kk B c2 xs V.heap.size 1 _ wI5 hs5 (by omega) (by omega) (by omega)).mono ?_
      rintro e w6 ⟨rfl, wM, hb6, hs6, ho6⟩
      have cI6 : CB h kk B xs.length c2 w6 := ⟨(ho6 h aI tz 0).trans t0, (ho6 h aI tz 1).trans t1, by omega⟩
      have E6 := E5.trans hb6
      clear t0 t1 tz cI5 wI5 E5 hb6 ho6 aI
      obtain ⟨t0, t1, tz⟩ := id cI6
      go_wp2_with fail
      refine (heldCertificate_any kk B c2 xs.length 1 _ wM.rd (by omega) (by omega) (by omega)).mono ?_
      rintro e w7 ⟨rfl, hb7⟩
      have cI7 := cI6.next hb7
      have rM := (wM.rd.below hb7).more hb7.size
      have E7 := ext_trans E6 hb7
      clear t0 t1 tz cI6 wM E6 hb7
      obtain ⟨cS7, rS7, PD⟩ := HA.out _ E7
      have HX := Lib.hid (fun (W : World) (E : Below w7.heap.size w7 W) => And.intro (cS7.next E) (And.intro (cI7.next E) (And.intro ((rS7.below E).more E.size) (And.intro ((rM.below E).more E.size) (PD.next E)))))
      clear HA E7 cS7 cI7 rS7 rM hs5 hs6 hVz hh
      obtain ⟨V', hV'⟩ : ∃ V' : World, V' = V := ⟨_, rfl⟩
      clear hV'
      obtain ⟨V, hV⟩ : ∃ V : World, V = w7 := ⟨_, rfl⟩
      subst hV
      go_upto_region 13 with fail
      go_cut [11, 12] (fun x y wx => RelC V kk xs code x y wx)
      case first =>
        have HF := HI
        obtain ⟨x1, x2, x3, x4, x5, x6⟩ := id PD
        go_region_held3 (fun w' => w'.cell? ⟨w.heap.size, 0, none⟩ = some (.int .i64 n) ∧ w'.cell? ⟨w.heap.size, 1, none⟩ = some (.int .i64 d) ∧ w'.cell? ⟨w.heap.size + 1, 0, none⟩ = some (.int .i64 p) ∧ w'.cell? ⟨w.heap.size + 1, 1, none⟩ = some (.int .i64 q) ∧ Below w.heap.size w w' ∧ w.heap.size + 1 < w'.heap.size)
          (first | exact PD.drew | exact HS3 | exact PB.next HS3 (ext1 _ _) | exact PB.next (by assumption) (by assumption) | exact PB.next (by assumption) (ext1 _ _) | exact PB.setG (by omega) (PB.setG (by omega) (by assumption)))
          (first
            | (go_at_call 15; (with_reducible refine (toFraction_any n d _).mono ?_); rintro e w1 ⟨rfl, hb1⟩; obtain ⟨hc1, hf1⟩ := bcell hb1; have y1 := hb1.size; (try simp at y1); (try have v1 : V.heap.size < w1.heap.size := by omega))
            | (go_at_call 15; (with_reducible refine (toFraction_any p q _).mono ?_); rintro e w2 ⟨rfl, hb2⟩; obtain ⟨hc2, hf2⟩ := bcell hb2; have y2 := hb2.size; (try simp only [World.size_alloc] at y2); (try have v12 : w1.heap.size < w2.heap.size := by omega); (try have v2 : V.heap.size < w2.heap.size := by omega))
            | (go_at_call 16; (with_reducible refine (HF.out _).mono ?_); rintro e w3 ⟨B, cc, rfl, hw3, hb3⟩; have HS3 : PB w n d p q w3 := PB.next (by assumption) hb3; have hw3 := Lib.hid hw3; obtain ⟨hc3, hf3⟩ := bcell hb3; have y3 := hb3.size; (try simp only [World.size_alloc] at y3); (try have v23 : w2.heap.size < w3.heap.size := by omega); (try have v31 : V.heap.size < w3.heap.size := by omega); (try have v32 : w1.heap.size < w3.heap.size := by omega)))
        all_goals go_wp2_with fail
        all_goals go_meet
        all_goals
          have E3 : Below V.heap.size V w3 := by
            repeat (first | exact Below.refl _ _ | assumption | refine ext_alloc ?_ _ | refine ext_drew ?_ | refine ext_trans ?_ (by assumption))
          first
            | exact relC_new E3 hw3.out (by omega)
            | exact relC_set (h := w2.heap.size) E3 hw3.out (by simp) (by omega) hb3.size (by rw [hc3 _ _ (by simp), cell_one]; rfl) (by rw [hc3 _ _ (by simp), cell_one]; rfl)
            | exact relC_set (h := w1.heap.size) E3 hw3.out (by omega) (by omega) hb3.size (by rw [hc3 _ _ (by omega), hc2 _ _ (by simp), cell_one]; rfl) (by rw [hc3 _ _ (by omega), hc2 _ _ (by simp), cell_one]; rfl)
            | exact relC_set (h := V.heap.size) E3 hw3.out (by omega) (by omega) hb3.size ((hc3 _ _ (by omega)).trans ((hc2 _ _ (by omega)).trans ((hc1 _ _ (by simp)).trans (cell_one V.drew _ _ _)))) ((hc3 _ _ (by omega)).trans ((hc2 _ _ (by omega)).trans ((hc1 _ _ (by simp)).trans (cell_one V.drew _ _ _))))
      case rest =>
        obtain ⟨g3, A3, c3, rfl, rfl, cT, wT, _, _, E3⟩ := hcut
        obtain ⟨cS8, cI8, rS8, rM8, PD8⟩ := HX.out _ E3
        obtain ⟨s0, s1, sz⟩ := id cS8
        obtain ⟨t0, t1, tz⟩ := id cT
        go_wp2_with fail
        refine (eqCertificate_any kk A3 A c3 c xs _ wT.rd rS8 hm).mono ?_
        rintro e w9 ⟨rfl, hb9⟩
        clear s0 s1 sz t0 t1 tz
        obtain ⟨cS9, cI9, rS9, rM9, PD9⟩ := HX.out _ (ext_trans E3 hb9)
        obtain ⟨t0, t1, tz⟩ := id cI9
        go_wp2_with fail
        refine (heldCertificate_any kk B c2 xs.length 1 _ rM9 (by omega) (by omega) (by omega)).mono ?_
        rintro e w10 ⟨rfl, hb10⟩
        go_wp2
        go_ret
        exact ⟨rfl, ext_trans PD9.2.2.2.2.1 hb10⟩

theorem walk (n d p q : Int) (w : World) (_ : (Lit.int .i64 n).wf = true) (_ : (Lit.int .i64 d).wf = true) (_ : (Lit.int .i64 p).wf = true) (_ : (Lit.int .i64 q).wf = true) :
    Calls Try.prog 3 #[fracV n d, fracV p q] w fun e w' => e = .returned (.bool true) ∧ Below w.heap.size w w' := by
  obtain ⟨kk, xs, code, h1, h2, h3⟩ := proveBest_same n d p q
  exact walkG n d p q kk xs code w h3 h1 h2

theorem own : ownKnob Try.prog.godebug = none := by kernel_rfl
theorem laidOut : laidOutB Try.prog = true := by kernel_rfl
set_option linter.unusedVariables false in
set_option maxRecDepth 100000 in
theorem lifted (os : Os) (started : os.Started) (H : Type) (enc : TypeId × Value → H) :
    ReturnsInHanded {} Try.checked os 3 .any (Rows.fnExactProveBestSpec.pre6 enc Try.prog Try.f3 Rows.fnExactProveBestRow.domain false) (Rows.fnExactProveBestSpec.post enc Try.prog Try.f3 false true false false) := by
  refine returnsInHanded_of_change (C := Try.checked) own started (by kernel_rfl) Try.func3
    (ChangeSpec.witness6 (enc := enc) (C := Try.checked) false ⟨#[], #[.agg #[.int .i64 0, .int .i64 0], .agg #[.int .i64 0, .int .i64 0]], []⟩ 8 (by kernel_rfl) (by kernel_rfl) (by kernel_rfl) (by kernel_rfl)) ?_
  intro W base args ds gs before hval0 hW hcnd _
  have hval : ∀ (j : Nat) t v, Try.f3.params[j]? = some t → args[j]? = some v → Value.okWide Try.prog W .any base t v := hval0
  have hW' := hW
  obtain ⟨p, q, hA0, hV, rfl, hfz, hnd⟩ := hW
  have hA : DataW.TrodAll enc Try.prog W 0 (fun _ => true) true Try.f3.params.toList args.toList ds p := hA0
  rw [Try.params3] at hA hval
  obtain ⟨v0, vs0, d0, ds0, p0, q0, hargs, rfl, rfl, h0, r0⟩ := trodAll_cons hA
  obtain ⟨v1, vs1, d1, ds1, p1, q1, rfl, rfl, rfl, h1, r1⟩ := trodAll_cons r0
  obtain ⟨rfl, rfl, rfl⟩ := trodAll_nil r1
  obtain rfl : args = #[v0, v1] := by cases args; simp_all
  obtain ⟨rfl, rfl⟩ := trodVars_none hV
  have k0 := h0
  have lt0 : ∀ x ∈ p0, x.block < W.heap.size := by obtain ⟨m, hm⟩ := k0; exact DataW.trod_lt m _ _ _ hm
  obtain ⟨u0_0, u0_1, y0_0, y0_1, n0, rfl, _, _, g0_0, g0_1⟩ := Joins.open_agg2 Try.underlying23 (by kernel_rfl) (by kernel_rfl) (hval 0 23 v0 rfl rfl) h0
  obtain ⟨f0_0, ef0_0, _, wf0_0⟩ := DataW.trod_int Try.underlying2 g0_0
  simp only [List.cons.injEq, and_true] at ef0_0
  subst ef0_0
  obtain ⟨f0_1, ef0_1, _, wf0_1⟩ := DataW.trod_int Try.underlying2 g0_1
  simp only [List.cons.injEq, and_true] at ef0_1
  subst ef0_1
  have k1 := h1
  have lt1 : ∀ x ∈ p1, x.block < W.heap.size := by obtain ⟨m, hm⟩ := k1; exact DataW.trod_lt m _ _ _ hm
  obtain ⟨u1_0, u1_1, y1_0, y1_1, n1, rfl, _, _, g1_0, g1_1⟩ := Joins.open_agg2 Try.underlying23 (by kernel_rfl) (by kernel_rfl) (hval 1 23 v1 rfl rfl) h1
  obtain ⟨f1_0, ef1_0, _, wf1_0⟩ := DataW.trod_int Try.underlying2 g1_0
  simp only [List.cons.injEq, and_true] at ef1_0
  subst ef1_0
  obtain ⟨f1_1, ef1_1, _, wf1_1⟩ := DataW.trod_int Try.underlying2 g1_1
  simp only [List.cons.injEq, and_true] at ef1_1
  subst ef1_1
  clear hA0 hval0
  refine (walk f0_0 f0_1 f1_0 f1_1 W wf0_0 wf0_1 wf1_0 wf1_1).mono fun e W' ⟨he, bel⟩ => ?_
  subst he
  exact ⟨_, rfl, _, _, _, [], _, [], hW', trodAll_mk1 (shut_bool Try.underlying4 _), (trodAll_cons_mk (Below.trod laidOut (by kernel_rfl) (of_decide_eq_true (by kernel_rfl)) k0 bel lt0) (trodAll_cons_mk (Below.trod laidOut (by kernel_rfl) (of_decide_eq_true (by kernel_rfl)) k1 bel lt1) trodAll_mk0)), rfl, bel.frame _, fun h => by cases h⟩

theorem over : Rows.fnExactProveBestRow.holds Try.pinned (OpenSpec.ofChange Rows.fnExactProveBestSpec) :=
  OpenClaim.holds_of_wide 3 Try.f3 rfl rfl rfl rfl rfl rfl rfl ⟨rfl, rfl, rfl, rfl, rfl⟩ rfl rfl rfl rfl rfl (by kernel_rfl) Try.func3 (by kernel_rfl)
    (of_decide_eq_true (by kernel_rfl)) (by unfold Func.isWrapper; first | (rw [if_pos (by decide +kernel)]; kernel_rfl) | (rw [if_neg (by decide +kernel)]; exact ⟨rfl, rfl⟩))
    (fun os started H enc _ => lifted os started H enc)

theorem proved : Rows.FnExactProveBestSaid := over
#print axioms proved
end Go.Proofs.Ytnpdpippnhikkaa.fnExactProveBest
