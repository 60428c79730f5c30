/- How two notes compare: the reference's walks. No condition but those that each theorem names. -/
import Derived.Test.YtkimmahmbacjpaaMgSo
import Derived.Test.YtkimmahmbacjpaaValidNotesW
import Derived.Deep.RegionHeld3
import Derived.Deep.DeepCutAuto
namespace Go.Proofs.Ytkimmahmbacjpaa
open Go.RowKit Go.Sort

/-- A source whose terms, if it is finite, are short. -/
def plS (s : So) : So := if s.pd.length = 0 then ⟨shT s.hd, s.pd, s.gr⟩ else s
/-- What a call returns that makes a source. -/
def RetPl (w : World) (s : So) (e : Ending) (w' : World) : Prop :=
  ∃ H ca P cb G cc, e = .returned (souV H s.hd.length ca P s.pd.length cb G s.gr.length cc) ∧ RdSo w' w'.heap.size H P G s ∧ Below w.heap.size w w'
/-- Three cells of block g are written. -/
def put3 (W : World) (g : Nat) (a b c : Value) : World := ((W.setCell ⟨g, 0, none⟩ a).setCell ⟨g, 1, none⟩ b).setCell ⟨g, 2, none⟩ c
theorem BoxV.put3 {g : Nat} {x y z : Value} {W : World} (h : BoxV g [x, y, z] W) (a b c : Value) : BoxV g [a, b, c] (((W.setCell ⟨g, 0, none⟩ a).setCell ⟨g, 1, none⟩ b).setCell ⟨g, 2, none⟩ c) :=
  ((h.set 0 a (by simp)).set 1 b (by simp)).set 2 c (by simp)
theorem Below.put3 {B g : Nat} {V W : World} (h : Below B V W) (hg : B ≤ g) (a b c : Value) : Below B V (((W.setCell ⟨g, 0, none⟩ a).setCell ⟨g, 1, none⟩ b).setCell ⟨g, 2, none⟩ c) :=
  ((h.setCell (by exact hg) a).setCell (by exact hg) b).setCell (by exact hg) c
theorem Wr.put3 {g B : Nat} {A : Option Addr} {xs : List Int} {W : World} (h : Wr (Value.int .i64) W B A xs) (hg : g < B) (a b c : Value) : Wr (Value.int .i64) (((W.setCell ⟨g, 0, none⟩ a).setCell ⟨g, 1, none⟩ b).setCell ⟨g, 2, none⟩ c) B A xs :=
  ((h.setLow (by exact hg) a).setLow (by exact hg) b).setLow (by exact hg) c
set_option maxRecDepth 100000 in
set_option maxHeartbeats 4000000 in
theorem l17Plain_any (s : So) (gx : Nat) (H P G : Option Addr) (ch cp cg : Nat) (w : World) (hr : RdSo w w.heap.size H P G s) (ha : SoAt w gx H P G ch cp cg s) (hs : TmB s) (hl : s.hd.length ≤ 1000) (hb : ∀ x ∈ s.hd, -2000000000 ≤ x ∧ x ≤ 2000000000) :
    Calls Try.prog 83 #[.pointer (some ⟨gx, 0, none⟩)] w (RetPl w (plS s)) := by
  obtain ⟨_, l2, l3, _⟩ := hs
  have hg : gx < w.heap.size := World.block_lt_of_cell? w _ ha.c0
  have HR0 : BoxV w.heap.size [.slice none 0 0, .slice none 0 0, .slice none 0 0] (w.alloc (.cells #[.slice none 0 0, .slice none 0 0, .slice none 0 0] 72)) := BoxV.new w #[.slice none 0 0, .slice none 0 0, .slice none 0 0] _
  have HA0 := ha.below (ext1 w (.cells #[.slice none 0 0, .slice none 0 0, .slice none 0 0] 72)) hg
  have hrV := hr.next (ext1 w (.cells #[.slice none 0 0, .slice none 0 0, .slice none 0 0] 72))
  have HE := Lib.hid (ext1 w (.cells #[.slice none 0 0, .slice none 0 0, .slice none 0 0] 72))
  have hVs : (w.alloc (.cells #[.slice none 0 0, .slice none 0 0, .slice none 0 0] 72)).heap.size = w.heap.size + 1 := by simp
  have HVS := Lib.hid hVs
  have hzw : w.heap.size < (w.alloc (.cells #[.slice none 0 0, .slice none 0 0, .slice none 0 0] 72)).heap.size := by simp
  have hgV : gx < (w.alloc (.cells #[.slice none 0 0, .slice none 0 0, .slice none 0 0] 72)).heap.size := by simp; omega
  have L3 := Lib.hid l3
  have l4 : s.gr.length ≤ 1000 := by omega
  clear hr ha hVs l3
  go_enter Try.func83, Try.ntmps83
  go_wp2_with fail
  go_upto_region 1 with fail
  generalize w.alloc (.cells #[.slice none 0 0, .slice none 0 0, .slice none 0 0] 72) = V at *
  have HO1 : Hid (∀ W : World, Below V.heap.size V W → Calls Try.prog 80 #[.slice H s.hd.length ch] W (RetCap W s.hd)) := fun W h => l00Own_any H ch s.hd W (hrV.next h).h (by omega)
  have HO2 : Hid (∀ W : World, Below V.heap.size V W → Calls Try.prog 80 #[.slice P s.pd.length cp] W (RetCap W s.pd)) := fun W h => l00Own_any P cp s.pd W (hrV.next h).p (by omega)
  have HO3 : Hid (∀ W : World, Below V.heap.size V W → Calls Try.prog 80 #[.slice G s.gr.length cg] W (RetCap W s.gr)) := fun W h => l00Own_any G cg s.gr W (hrV.next h).g (by omega)
  unfold RetCap at HO1 HO2 HO3
  have HCK : Hid (∀ W : World, Below V.heap.size V W → W.cell? ⟨gx, 0, none⟩ = some (.slice H s.hd.length ch) ∧ W.cell? ⟨gx, 1, none⟩ = some (.slice P s.pd.length cp) ∧ W.cell? ⟨gx, 2, none⟩ = some (.slice G s.gr.length cg)) := fun W h => ⟨(HA0.below h hgV).c0, (HA0.below h hgV).c1, (HA0.below h hgV).c2⟩
  clear hrV HA0
  go_cut [3] (fun v wx => ∃ (g6 : Nat) (A1 : Option Addr) (c1 : Nat) (A2 : Option Addr) (c2 : Nat) (A3 : Option Addr) (c3 : Nat), v = .pointer (some ⟨g6, 0, none⟩) ∧ BoxV g6 [.slice A1 s.hd.length c1, .slice A2 s.pd.length c2, .slice A3 s.gr.length c3] wx ∧ Hid (Wr (Value.int .i64) wx V.heap.size A1 s.hd) ∧ Hid (Wr (Value.int .i64) wx V.heap.size A2 s.pd) ∧ Hid (Wr (Value.int .i64) wx V.heap.size A3 s.gr) ∧ (s.hd.length ≤ c1 ∧ c1 ≤ maxLen) ∧ Below V.heap.size V wx ∧ V.heap.size ≤ g6)
  case first =>
    go_region_held3 (fun w' => w'.cell? ⟨gx, 0, none⟩ = some (.slice H s.hd.length ch) ∧ w'.cell? ⟨gx, 1, none⟩ = some (.slice P s.pd.length cp) ∧ w'.cell? ⟨gx, 2, none⟩ = some (.slice G s.gr.length cg))
      (exact HCK.out _ (by repeat (first | exact Below.refl _ _ | assumption | refine ext_set ?_ (by simp <;> omega) _ | refine ext_alloc ?_ _ | refine ext_drew ?_ | refine ext_trans ?_ (by assumption))))
      (first | (go_at_call 80; (with_reducible refine (HO1.out _ (by repeat (first | exact Below.refl _ _ | assumption | refine ext_set ?_ (by simp <;> omega) _ | refine ext_alloc ?_ _ | refine ext_drew ?_ | refine ext_trans ?_ (by assumption)))).mono ?_); rintro e w5 ⟨A5, c5, rfl, hw5, hcc5, hb5⟩; have hy5 := hb5.size; (try simp at hy5); (first | have m50 := (hb5.cell (p := ⟨V.heap.size, 0, none⟩) (by simp)).trans (cell_one _ _ _ _) | skip); (first | have n50 := (hb5.frozen (p := ⟨V.heap.size, 0, none⟩) (by simp)).trans (World.frozen?_alloc_at _ _ _ _ rfl) | skip); (first | have m51 := (hb5.cell (p := ⟨V.heap.size, 1, none⟩) (by simp)).trans (cell_one _ _ _ _) | skip); (first | have n51 := (hb5.frozen (p := ⟨V.heap.size, 1, none⟩) (by simp)).trans (World.frozen?_alloc_at _ _ _ _ rfl) | skip); (first | have m52 := (hb5.cell (p := ⟨V.heap.size, 2, none⟩) (by simp)).trans (cell_one _ _ _ _) | skip); (first | have n52 := (hb5.frozen (p := ⟨V.heap.size, 2, none⟩) (by simp)).trans (World.frozen?_alloc_at _ _ _ _ rfl) | skip)) | (go_at_call 80; (with_reducible refine (HO2.out _ (by repeat (first | exact Below.refl _ _ | assumption | refine ext_set ?_ (by simp <;> omega) _ | refine ext_alloc ?_ _ | refine ext_drew ?_ | refine ext_trans ?_ (by assumption)))).mono ?_); rintro e w6 ⟨A6, c6, rfl, hw6, hcc6, hb6⟩; have hy6 := hb6.size; (try simp at hy6); (first | have m60 := (hb6.cell (p := ⟨V.heap.size, 0, none⟩) (by show V.heap.size < _; omega)).trans m50 | have m60 := (hb6.cell (p := ⟨w5.heap.size, 0, none⟩) (by simp)).trans (cell_one _ _ _ _) | skip); (first | have n60 := (hb6.frozen (p := ⟨V.heap.size, 0, none⟩) (by show V.heap.size < _; omega)).trans n50 | have n60 := (hb6.frozen (p := ⟨w5.heap.size, 0, none⟩) (by simp)).trans (World.frozen?_alloc_at _ _ _ _ rfl) | skip); (first | have m61 := (hb6.cell (p := ⟨V.heap.size, 1, none⟩) (by show V.heap.size < _; omega)).trans m51 | have m61 := (hb6.cell (p := ⟨w5.heap.size, 1, none⟩) (by simp)).trans (cell_one _ _ _ _) | skip); (first | have n61 := (hb6.frozen (p := ⟨V.heap.size, 1, none⟩) (by show V.heap.size < _; omega)).trans n51 | have n61 := (hb6.frozen (p := ⟨w5.heap.size, 1, none⟩) (by simp)).trans (World.frozen?_alloc_at _ _ _ _ rfl) | skip); (first | have m62 := (hb6.cell (p := ⟨V.heap.size, 2, none⟩) (by show V.heap.size < _; omega)).trans m52 | have m62 := (hb6.cell (p := ⟨w5.heap.size, 2, none⟩) (by simp)).trans (cell_one _ _ _ _) | skip); (first | have n62 := (hb6.frozen (p := ⟨V.heap.size, 2, none⟩) (by show V.heap.size < _; omega)).trans n52 | have n62 := (hb6.frozen (p := ⟨w5.heap.size, 2, none⟩) (by simp)).trans (World.frozen?_alloc_at _ _ _ _ rfl) | skip)) | (go_at_call 80; (with_reducible refine (HO3.out _ (by repeat (first | exact Below.refl _ _ | assumption | refine ext_set ?_ (by simp <;> omega) _ | refine ext_alloc ?_ _ | refine ext_drew ?_ | refine ext_trans ?_ (by assumption)))).mono ?_); rintro e w7 ⟨A7, c7, rfl, hw7, hcc7, hb7⟩; have hy7 := hb7.size; (try simp at hy7); (first | have m70 := (hb7.cell (p := ⟨V.heap.size, 0, none⟩) (by show V.heap.size < _; omega)).trans m60 | have m70 := (hb7.cell (p := ⟨w5.heap.size, 0, none⟩) (by show w5.heap.size < _; omega)).trans m60 | have m70 := (hb7.cell (p := ⟨w6.heap.size, 0, none⟩) (by simp)).trans (cell_one _ _ _ _) | skip); (first | have n70 := (hb7.frozen (p := ⟨V.heap.size, 0, none⟩) (by show V.heap.size < _; omega)).trans n60 | have n70 := (hb7.frozen (p := ⟨w5.heap.size, 0, none⟩) (by show w5.heap.size < _; omega)).trans n60 | have n70 := (hb7.frozen (p := ⟨w6.heap.size, 0, none⟩) (by simp)).trans (World.frozen?_alloc_at _ _ _ _ rfl) | skip); (first | have m71 := (hb7.cell (p := ⟨V.heap.size, 1, none⟩) (by show V.heap.size < _; omega)).trans m61 | have m71 := (hb7.cell (p := ⟨w5.heap.size, 1, none⟩) (by show w5.heap.size < _; omega)).trans m61 | have m71 := (hb7.cell (p := ⟨w6.heap.size, 1, none⟩) (by simp)).trans (cell_one _ _ _ _) | skip); (first | have n71 := (hb7.frozen (p := ⟨V.heap.size, 1, none⟩) (by show V.heap.size < _; omega)).trans n61 | have n71 := (hb7.frozen (p := ⟨w5.heap.size, 1, none⟩) (by show w5.heap.size < _; omega)).trans n61 | have n71 := (hb7.frozen (p := ⟨w6.heap.size, 1, none⟩) (by simp)).trans (World.frozen?_alloc_at _ _ _ _ rfl) | skip); (first | have m72 := (hb7.cell (p := ⟨V.heap.size, 2, none⟩) (by show V.heap.size < _; omega)).trans m62 | have m72 := (hb7.cell (p := ⟨w5.heap.size, 2, none⟩) (by show w5.heap.size < _; omega)).trans m62 | have m72 := (hb7.cell (p := ⟨w6.heap.size, 2, none⟩) (by simp)).trans (cell_one _ _ _ _) | skip); (first | have n72 := (hb7.frozen (p := ⟨V.heap.size, 2, none⟩) (by show V.heap.size < _; omega)).trans n62 | have n72 := (hb7.frozen (p := ⟨w5.heap.size, 2, none⟩) (by show w5.heap.size < _; omega)).trans n62 | have n72 := (hb7.frozen (p := ⟨w6.heap.size, 2, none⟩) (by simp)).trans (World.frozen?_alloc_at _ _ _ _ rfl) | skip)))
    all_goals go_wp2_with fail
    all_goals go_meet
    all_goals first
      | exact ⟨w7.heap.size, A5, c5, A6, c6, A7, c7, rfl, BoxV.new w7 #[.slice A5 s.hd.length c5, .slice A6 s.pd.length c6, .slice A7 s.gr.length c7] _, (Wr.below hw5 (ext_alloc (ext_trans hb6 hb7) _)).more (by first | omega | (simp; done) | (simp; omega)), (Wr.below hw6 (ext_alloc hb7 _)).more (by first | omega | (simp; done) | (simp; omega)), (Wr.below hw7 (ext1 _ _)).more (by first | omega | (simp; done) | (simp; omega)), hcc5, ext_alloc (ext_trans (ext_trans (ext_trans (ext_drew (Below.refl _ _)) hb5) hb6) hb7) _, (by first | omega | (simp; done) | (simp; omega))⟩
      | exact ⟨w6.heap.size, A5, c5, A6, c6, A7, c7, rfl, (BoxV.next (BoxV.new w6 #[.slice none 0 0, .slice none 0 0, .slice none 0 0] _) hb7).put3 _ _ _, (Wr.below hw5 (Below.put3 (ext_trans (ext_alloc hb6 _) hb7) (by first | omega | (simp; done) | (simp; omega)) _ _ _)).more (by first | omega | (simp; done) | (simp; omega)), (Wr.below hw6 (Below.put3 (ext_trans (ext1 _ _) hb7) (by first | omega | (simp; done) | (simp; omega)) _ _ _)).more (by first | omega | (simp; done) | (simp; omega)), (Wr.put3 hw7 (by first | omega | (simp; done) | (simp; omega)) _ _ _).more (by first | omega | (simp; done) | (simp; omega)), hcc5, Below.put3 (ext_trans (ext_alloc (ext_trans (ext_trans (ext_drew (Below.refl _ _)) hb5) hb6) _) hb7) (by first | omega | (simp; done) | (simp; omega)) _ _ _, (by first | omega | (simp; done) | (simp; omega))⟩
      | exact ⟨w5.heap.size, A5, c5, A6, c6, A7, c7, rfl, (BoxV.next (BoxV.next (BoxV.new w5 #[.slice none 0 0, .slice none 0 0, .slice none 0 0] _) hb6) hb7).put3 _ _ _, (Wr.below hw5 (Below.put3 (ext_trans (ext_trans (ext1 _ _) hb6) hb7) (by first | omega | (simp; done) | (simp; omega)) _ _ _)).more (by first | omega | (simp; done) | (simp; omega)), (Wr.put3 (Wr.below hw6 hb7) (by first | omega | (simp; done) | (simp; omega)) _ _ _).more (by first | omega | (simp; done) | (simp; omega)), (Wr.put3 hw7 (by first | omega | (simp; done) | (simp; omega)) _ _ _).more (by first | omega | (simp; done) | (simp; omega)), hcc5, Below.put3 (ext_trans (ext_trans (ext_alloc (ext_trans (ext_drew (Below.refl _ _)) hb5) _) hb6) hb7) (by first | omega | (simp; done) | (simp; omega)) _ _ _, (by first | omega | (simp; done) | (simp; omega))⟩
      | exact ⟨V.heap.size, A5, c5, A6, c6, A7, c7, rfl, (BoxV.next (BoxV.next (BoxV.next (BoxV.new V.drew #[.slice none 0 0, .slice none 0 0, .slice none 0 0] _) hb5) hb6) hb7).put3 _ _ _, (Wr.put3 (Wr.below (Wr.below hw5 hb6) hb7) (by first | omega | (simp; done) | (simp; omega)) _ _ _).more (by first | omega | (simp; done) | (simp; omega)), (Wr.put3 (Wr.below hw6 hb7) (by first | omega | (simp; done) | (simp; omega)) _ _ _).more (by first | omega | (simp; done) | (simp; omega)), (Wr.put3 hw7 (by first | omega | (simp; done) | (simp; omega)) _ _ _).more (by first | omega | (simp; done) | (simp; omega)), hcc5, Below.put3 (ext_trans (ext_trans (ext_trans (ext_alloc (ext_drew (Below.refl _ _)) _) hb5) hb6) hb7) (by first | omega | (simp; done) | (simp; omega)) _ _ _, (by first | omega | (simp; done) | (simp; omega))⟩
  case rest =>
    obtain ⟨g6, A1, c1, A2, c2, A3, c3, rfl, hB6, HW1, HW2, HW3, hcc, hb6, hg6⟩ := hcut
    have HVS := HVS.out
    have HE6 := Lib.hid (ext_trans HE.out hb6)
    have hR6 := HR0.next hb6
    have hzw2 : V.heap.size ≤ wc.heap.size := hb6.size
    have hgl : g6 < wc.heap.size := hB6.lt
    have z0 := hB6.at 0 _ rfl
    have z1 := hB6.at 1 _ rfl
    have z2 := hB6.at 2 _ rfl
    have f0 := hB6.f 0
    have r0 := hR6.at 0 _ rfl
    have r1 := hR6.at 1 _ rfl
    have r2 := hR6.at 2 _ rfl
    have q0 := hR6.f 0
    have q1 := hR6.f 1
    have q2 := hR6.f 2
    have hR6' := Lib.hid hR6
    have hB6' := Lib.hid hB6
    have hne : ¬ (g6 = w.heap.size) := by omega
    have hne' : ¬ (w.heap.size = g6) := by omega
    clear HR0 HO1 HO2 HO3 HCK hR6 hB6 HE
    by_cases hp : s.pd.length = 0
    · have HF : Hid (∀ (w' : World) (A : Option Addr) (n c : Nat) (P : Option Addr) (cp : Nat) (G : Option Addr) (cg : Nat), n = (shT s.hd).length → Rd (Value.int .i64) w' w'.heap.size A (shT s.hd) → Below w.heap.size w w' → RetPl w (plS s) (.returned (souV A n c P s.pd.length cp G s.gr.length cg)) w') := fun w' A n c P cp G cg hn hw hbl => by
        subst hn
        have e : plS s = ⟨shT s.hd, s.pd, s.gr⟩ := if_pos hp
        rw [e]
        exact ⟨A, c, P, cp, G, cg, rfl, ⟨hw, fun h => absurd h (by simp only; omega), fun h => absurd h (by simp only; have := L3.out; omega)⟩, hbl⟩
      have e0 : ((s.pd.length : Int) == 0) = true := by simpa using hp
      have HSH : Hid (Calls Try.prog 78 #[.slice A1 s.hd.length c1] wc (RetCap wc (shT s.hd))) := l03Short_any A1 c1 s.hd wc HW1.out.rd (by omega) hcc hb
      have HP := Lib.hid hp
      clear hp hb
      unfold souV at *
      go_wp2_with fail
      refine HSH.out.mono ?_
      rintro e w8 ⟨A8, c8, rfl, hw8, hcc8, hb8⟩
      have k0 := (hB6'.out.next hb8).at 0 _ rfl
      have k1 := (hB6'.out.next hb8).at 1 _ rfl
      have k2 := (hB6'.out.next hb8).at 2 _ rfl
      have kf := (hB6'.out.next hb8).f 0
      have r0 := (hR6'.out.next hb8).at 0 _ rfl
      have r1 := (hR6'.out.next hb8).at 1 _ rfl
      have r2 := (hR6'.out.next hb8).at 2 _ rfl
      have q0 := (hR6'.out.next hb8).f 0
      have q1 := (hR6'.out.next hb8).f 1
      have q2 := (hR6'.out.next hb8).f 2
      have HW8 := Lib.hid hw8
      have HE8 := Lib.hid (ext_trans HE6.out hb8)
      clear hw8 hcc8 hb8
      go_wp2
      refine bodyPost_ret (v := .agg #[.slice A8 (shT s.hd).length c8, .slice A2 s.pd.length c2, .slice A3 s.gr.length c3]) (by simp [results, Try.results83, go_sem, r0, r1, r2]; done) rfl (HF.out _ A8 _ c8 _ _ _ _ rfl ?_ ?_)
      · exact (((HW8.out.setLow (by exact hgl) _).put3 (by omega) _ _ _)).rd
      · exact Below.put3 (ext_set HE8.out (by show w.heap.size ≤ g6; omega) _) (Nat.le_refl _) _ _ _
    · have HF : Hid (∀ (w' : World) (A : Option Addr) (c : Nat) (P : Option Addr) (cp : Nat) (G : Option Addr) (cg : Nat), Rd (Value.int .i64) w' w'.heap.size A s.hd → Rd (Value.int .i64) w' w'.heap.size P s.pd → Rd (Value.int .i64) w' w'.heap.size G s.gr → Below w.heap.size w w' → RetPl w (plS s) (.returned (souV A s.hd.length c P s.pd.length cp G s.gr.length cg)) w') := fun w' A c P cp G cg ha hb hc hbl => by
        have e : plS s = s := if_neg hp
        rw [e]
        exact ⟨A, c, P, cp, G, cg, rfl, ⟨ha, hb, hc⟩, hbl⟩
      have e0 : ((s.pd.length : Int) == 0) = false := by simpa using hp
      clear hp hb
      unfold souV at *
      go_wp2
      refine bodyPost_ret (v := .agg #[.slice A1 s.hd.length c1, .slice A2 s.pd.length c2, .slice A3 s.gr.length c3]) (by simp [results, Try.results83, go_sem, r0, r1, r2]; done) rfl (HF.out _ A1 c1 A2 c2 A3 c3 ?_ ?_ ?_ ?_)
      · exact (HW1.out.put3 (by omega) _ _ _).rd
      · exact (HW2.out.put3 (by omega) _ _ _).rd
      · exact (HW3.out.put3 (by omega) _ _ _).rd
      · exact Below.put3 HE6.out (Nat.le_refl _) _ _ _
end Go.Proofs.Ytkimmahmbacjpaa
