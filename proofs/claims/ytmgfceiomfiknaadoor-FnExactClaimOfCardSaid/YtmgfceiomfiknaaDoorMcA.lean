/- XBestX XBestY XSinkW XFanW in one text. No condition but those that each theorem names. -/
import Derived.Test.YtmgfceiomfiknaaDoorBestW
import Derived.Test.YtmgfceiomfiknaaDoorProveW
import Derived.Test.YtmgfceiomfiknaaDoorBase
import Derived.StillTail
import Derived.Deep.RegionHeld3
import Derived.Test.YtmgfceiomfiknaaDoorSideW
/- Best approximations of the first kind: is one, and its certificate: the walks. No condition but those that each theorem names. -/
namespace Go.Proofs.YtmgfceiomfiknaaDoor
open Go.RowKit Go.Sort

def frEq (a b c d : Int) : Bool := (a == c) && (b == d)
theorem frEq_true {a b c d : Int} : frEq a b c d = true ↔ a = c ∧ b = d := by simp [frEq]
/-- Is p / q one of the sides, and the nearer one? -/
def isB (p q A B C E c : Int) : Bool := (frEq p q A B && decide (c < 0)) || (frEq p q C E && decide (0 < c))
theorem small_bd {n d : Int} (h1 : smallFB n d = true) (h2 : fracOk n d = true) : -1000000 ≤ n ∧ n ≤ 1000000 ∧ 1 ≤ d ∧ d ≤ 1000000 := by
  unfold smallFB at h1
  rw [Bool.and_eq_true, inR_true, decide_eq_true_iff] at h1
  have := fracOk_true.1 h2
  omega
set_option maxHeartbeats 1000000 in
theorem l18Compare_any (n d a b c f : Int) (w : World) (hn : big6 n) (hd : big6 d) (ha : big6 a) (hb : big6 b) (hc : big6 c) (hf : big6 f) :
    Calls Tryd.prog 91 #[fracV n d, fracV a b, fracV c f] w fun e w' => e = .returned (.int .i64 (cmp3 (errV n d a b * f) (errV n d c f * b))) ∧ Below w.heap.size w w' := by
  obtain ⟨_, _, _, _, x1, x2⟩ := errV_bd hn hd ha hb
  obtain ⟨_, _, _, _, y1, y2⟩ := errV_bd hn hd hc hf
  have HX := Lib.hid (l18Off_any n d a b · hn hd ha hb)
  have HY := Lib.hid (l18Off_any n d c f · hn hd hc hf)
  obtain ⟨f1, f2⟩ := hf
  obtain ⟨b1, b2⟩ := hb
  clear hn hd ha hc
  generalize errV n d a b = x at *
  generalize errV n d c f = y at *
  obtain ⟨p1, p2⟩ := mul_bd (x := x) (y := f) (M := 2000000000000) (N := 1000000) (by omega) x2 (by omega) f2 (by omega) f1
  obtain ⟨p3, p4⟩ := mul_bd (x := y) (y := b) (M := 2000000000000) (N := 1000000) (by omega) y2 (by omega) b2 (by omega) b1
  have w1 : IntKind.i64.wrap (x * f) = x * f := IntWalk.i64_in _ (by omega)
  have w2 : IntKind.i64.wrap (y * b) = y * b := IntWalk.i64_in _ (by omega)
  have HP := Lib.hid (show cmp3 (x * f) (y * b) = if x * f < y * b then -1 else if y * b < x * f then 1 else 0 from rfl)
  generalize hv : cmp3 (x * f) (y * b) = v at *
  clear hv
  obtain ⟨X, hX⟩ : ∃ X, x * f = X := ⟨_, rfl⟩
  obtain ⟨Y, hY⟩ : ∃ Y, y * b = Y := ⟨_, rfl⟩
  rw [hX] at w1 p1 p2 HP
  rw [hY] at w2 p3 p4 HP
  unfold fracV at *
  go_enter Tryd.func91, Tryd.ntmps91
  go_wp2_with fail
  have hb0 := Lib.hid (show Below w.heap.size w (((w.alloc (.cells #[.int .i64 n, .int .i64 d] 57)).alloc (.cells #[.int .i64 a, .int .i64 b] 57)).alloc (.cells #[.int .i64 c, .int .i64 f] 57)) from ext_alloc (ext_alloc (ext_alloc (Below.refl _ _) _) _) _)
  have q1 := cell_three_1 w #[.int .i64 n, .int .i64 d] #[.int .i64 a, .int .i64 b] #[.int .i64 c, .int .i64 f] 57 57 57
  have q2 := cell_three_2 w #[.int .i64 n, .int .i64 d] #[.int .i64 a, .int .i64 b] #[.int .i64 c, .int .i64 f] 57 57 57
  have q3 := cell_three_3 w #[.int .i64 n, .int .i64 d] #[.int .i64 a, .int .i64 b] #[.int .i64 c, .int .i64 f] 57 57 57
  generalize ((w.alloc (.cells #[.int .i64 n, .int .i64 d] 57)).alloc (.cells #[.int .i64 a, .int .i64 b] 57)).alloc (.cells #[.int .i64 c, .int .i64 f] 57) = W at *
  have k0 : ∀ x os, (grow (redrawn W x) os).cell? ⟨w.heap.size, 0, none⟩ = some (.int .i64 n) := cell_regrown (q1 0)
  have k1 : ∀ x os, (grow (redrawn W x) os).cell? ⟨w.heap.size, 1, none⟩ = some (.int .i64 d) := cell_regrown (q1 1)
  have k2 : ∀ x os, (grow (redrawn W x) os).cell? ⟨w.heap.size + 1, 0, none⟩ = some (.int .i64 a) := cell_regrown (q2 0)
  have k3 : ∀ x os, (grow (redrawn W x) os).cell? ⟨w.heap.size + 1, 1, none⟩ = some (.int .i64 b) := cell_regrown (q2 1)
  have k4 : ∀ x os, (grow (redrawn W x) os).cell? ⟨w.heap.size + 1 + 1, 0, none⟩ = some (.int .i64 c) := cell_regrown (q3 0)
  have k5 : ∀ x os, (grow (redrawn W x) os).cell? ⟨w.heap.size + 1 + 1, 1, none⟩ = some (.int .i64 f) := cell_regrown (q3 1)
  have HQ := Lib.hid (And.intro (fun j => q1 j) (And.intro (fun j => q2 j) (fun j => q3 j)))
  have hsz := Lib.hid (show w.heap.size + 1 + 1 < W.heap.size from by have := block_lt_of_cell (q3 0); simpa using this)
  clear q1 q2 q3
  refine wp_region_quiet_below (by kernel_rfl) (by kernel_rfl) ?_
  repeat (first | go_big_quiet_step ((with_reducible exact Calls.regrown_of (HX.out _))) | quiet_step ((with_reducible exact Calls.regrown_of (HX.out _))))
  refine wpQuiet_nil ?_
  intro _ hw'
  obtain ⟨⟨dq, oq⟩, hw''⟩ := hw'
  subst hw''
  obtain ⟨w4, hW4⟩ : ∃ Wq, Wq = grow (redrawn W dq) oq := ⟨_, rfl⟩
  have hb4 : Below W.heap.size W w4 := by rw [hW4]; exact below_regrown _ _ _
  rw [← hW4]
  clear hW4
  obtain ⟨hc4, hf4⟩ := bcell hb4
  have hy4 := hb4.size
  clear k0 k1 k2 k3 k4 k5
  have k0 : ∀ x os, (grow (redrawn w4 x) os).cell? ⟨w.heap.size, 0, none⟩ = some (.int .i64 n) := cell_regrown ((hc4 _ _ (by have := hsz.out; omega)).trans (HQ.out.1 0))
  have k1 : ∀ x os, (grow (redrawn w4 x) os).cell? ⟨w.heap.size, 1, none⟩ = some (.int .i64 d) := cell_regrown ((hc4 _ _ (by have := hsz.out; omega)).trans (HQ.out.1 1))
  have k2 : ∀ x os, (grow (redrawn w4 x) os).cell? ⟨w.heap.size + 1, 1, none⟩ = some (.int .i64 b) := cell_regrown ((hc4 _ _ (by have := hsz.out; omega)).trans (HQ.out.2.1 1))
  have k4 : ∀ x os, (grow (redrawn w4 x) os).cell? ⟨w.heap.size + 1 + 1, 0, none⟩ = some (.int .i64 c) := cell_regrown ((hc4 _ _ (by have := hsz.out; omega)).trans (HQ.out.2.2 0))
  have k5 : ∀ x os, (grow (redrawn w4 x) os).cell? ⟨w.heap.size + 1 + 1, 1, none⟩ = some (.int .i64 f) := cell_regrown ((hc4 _ _ (by have := hsz.out; omega)).trans (HQ.out.2.2 1))
  have hbe := Lib.hid (ext_trans hb0.out hb4)
  clear hc4 hf4 hy4 hb4
  go_wp2_with fail
  refine wp_region_quiet_below (by kernel_rfl) (by kernel_rfl) ?_
  repeat (first | go_big_quiet_step ((with_reducible exact Calls.regrown_of (HY.out _))) | quiet_step ((with_reducible exact Calls.regrown_of (HY.out _))))
  refine wpQuiet_nil ?_
  intro _ hw'
  obtain ⟨⟨dq, oq⟩, hw''⟩ := hw'
  subst hw''
  obtain ⟨w5, hW5⟩ : ∃ Wq, Wq = grow (redrawn w4 dq) oq := ⟨_, rfl⟩
  have hb5 : Below w4.heap.size w4 w5 := by rw [hW5]; exact below_regrown _ _ _
  rw [← hW5]
  clear hW5
  obtain ⟨hc5, hf5⟩ := bcell hb5
  have hy5 := hb5.size
  have hbe := Lib.hid (ext_trans hbe.out hb5)
  clear k0 k1 k2 k4 k5 hc5 hf5 hy5 hb5
  have hp := HP.out
  by_cases x1 : X < Y
  · rw [if_pos x1] at hp
    have HP2 := Lib.hid hp
    clear hp
    go_wp2
    go_ret
    exact ⟨ret_int HP2.out.symm, hbe.out⟩
  · by_cases x2 : Y < X
    · rw [if_neg x1, if_pos x2] at hp
      have HP2 := Lib.hid hp
      clear hp
      go_wp2
      go_ret
      exact ⟨ret_int HP2.out.symm, hbe.out⟩
    · rw [if_neg x1, if_neg x2] at hp
      have HP2 := Lib.hid hp
      clear hp
      go_wp2
      go_ret
      exact ⟨ret_int HP2.out.symm, hbe.out⟩
end Go.Proofs.YtmgfceiomfiknaaDoor

/- Best approximations of the first kind, the reference's: is one: the walks. No condition but those that each theorem names. -/
namespace Go.Proofs.YtmgfceiomfiknaaDoor
open Go.RowKit Go.Sort

end Go.Proofs.YtmgfceiomfiknaaDoor

/- A region that draws and whose last operations come one after the other behind all the rest: these apart, the rest as a region of its own. No condition but those that each theorem names. -/
namespace Go.Proofs.YtmgfceiomfiknaaDoor
open Go.RowKit Go.Sort

/-- What the rest of a region must lead to: the last operations, one after the other. -/
def sinkQ (P : Program) (ops : Array Oper) (Q : Exit → Act → World → Prop) (tl : List Oper) : Exit → Act → World → Prop
  | .normal, a, w => wpList P ops Q tl a w
  | .exit i, a, w => Q (.exit i) a w
  | .goto l, a, w => Q (.goto l) a w
  | .ret, a, w => Q .ret a w
  | .panic c, a, w => Q (.panic c) a w
  | .outgrown, a, w => Q .outgrown a w

/-- All edges and guards lead back. -/
def backB (md : Region.Mode) (l : List Oper) (n : Nat) : Bool :=
  (List.range n).all fun j => match l[j]? with
    | some o => (o.after.all fun e => !Region.binds md e || decide (e.on < j)) && (match o.guard with | some (g, _) => decide (g < n) | none => true)
    | none => false

section
variable {P : Program} {md : Region.Mode} {l : List Oper} {n : Nat} {Q : Exit → Act → World → Prop}

theorem wpAny_more {ops : Array Oper} : ∀ (f : Nat) (listed : Array Bool) (a : Act) (w : World), wpAny P md ops Q f listed a w → wpAny P md ops Q (f + 1) listed a w
  | 0, listed, a, w, h => ⟨fun _ => h.2, fun i hi => by rw [h.1] at hi; cases hi⟩
  | f + 1, listed, a, w, h => ⟨h.1, fun i hi => wpOp_mono (fun a' w' h' => wpAny_more f _ a' w' h') (h.2 i hi)⟩
theorem wpAny_mores {ops : Array Oper} (g : Nat) (listed : Array Bool) (a : Act) (w : World) (h : wpAny P md ops Q g listed a w) : ∀ f, wpAny P md ops Q (f + g) listed a w
  | 0 => by rw [Nat.zero_add]; exact h
  | f + 1 => by rw [show f + 1 + g = (f + g) + 1 by omega]; exact wpAny_more _ _ _ _ (wpAny_mores g listed a w h f)

/-- What is listed of the whole region, and of its head. -/
structure SinkR (l : List Oper) (n : Nat) (listed listed' : Array Bool) : Prop where
  size' : listed'.size = n
  head : ∀ j, j < n → listed.getD j false = listed'.getD j false

theorem getD_bool {listed : Array Bool} {j : Nat} (hj : j < listed.size) : listed.getD j true = listed.getD j false := by simp [hj]

theorem backB_spec (hb : backB md l n = true) {j : Nat} (hj : j < n) : ∃ o, l[j]? = some o ∧ (∀ e ∈ o.after, Region.binds md e = true → e.on < j) ∧ ∀ g b, o.guard = some (g, b) → g < n := by
  have h := List.all_eq_true.1 hb j (List.mem_range.2 hj)
  cases ho : l[j]? with
  | none => rw [ho] at h; cases h
  | some o =>
    rw [ho] at h
    simp only [Bool.and_eq_true] at h
    refine ⟨o, rfl, fun e he hbe => ?_, fun g b hg => ?_⟩
    · have := Array.all_eq_true'.1 h.1 e he
      rw [hbe] at this
      simpa using this
    · have := h.2
      rw [hg] at this
      simpa using this

theorem head_at {j : Nat} (hj : j < n) : (l.take n).toArray[j]? = l.toArray[j]? := by simp [hj]

theorem sink_ready {listed listed' : Array Bool} (hb : backB md l n = true) (hn : n < l.length) (inv : HeadInv md l.toArray n listed) (r : SinkR l n listed listed') {i : Nat} (hi : i < n) :
    i ∈ Region.ready md l.toArray listed ↔ i ∈ Region.ready md (l.take n).toArray listed' := by
  obtain ⟨o, ho, he, _⟩ := backB_spec hb hi
  have hs : listed.size = l.length := by rw [inv.size]; simp
  have e1 : listed.getD i true = listed'.getD i true := by
    rw [getD_bool (by omega), getD_bool (by rw [r.size']; exact hi)]
    exact r.head i hi
  rw [mem_ready, mem_ready, e1, head_at hi]
  refine and_congr_right fun _ => ⟨fun ⟨o', ho', h⟩ => ⟨o', ho', fun e hem hbe => ?_⟩, fun ⟨o', ho', h⟩ => ⟨o', ho', fun e hem hbe => ?_⟩⟩
  · have eo : o' = o := by
      have : l.toArray[i]? = some o := by simpa using ho
      exact Option.some.inj (ho'.symm.trans this)
    subst eo
    have := he e hem hbe
    rw [← r.head _ (by omega)]
    exact h e hem hbe
  · have eo : o' = o := by
      have : l.toArray[i]? = some o := by simpa using ho
      exact Option.some.inj (ho'.symm.trans this)
    subst eo
    have := he e hem hbe
    rw [r.head _ (by omega)]
    exact h e hem hbe

theorem sink_all {listed' : Array Bool} (hb : backB md l n = true) (hs : listed'.size = n) (h : Region.ready md (l.take n).toArray listed' = []) : ∀ j, j < n → listed'.getD j false = true := by
  intro j
  induction j using Nat.strongRecOn with
  | _ j ih =>
    intro hj
    cases hl : listed'.getD j false with
    | true => rfl
    | false =>
      exfalso
      obtain ⟨o, ho, he, _⟩ := backB_spec hb hj
      have : j ∈ Region.ready md (l.take n).toArray listed' := mem_ready.2 ⟨by rw [getD_bool (by omega)]; exact hl, o, by rw [head_at hj]; simpa using ho, fun e hem hbe => ih _ (he e hem hbe) (by have := he e hem hbe; omega)⟩
      rw [h] at this
      cases this

theorem sink_wp {o : Oper} {a : Act} {w : World} {K K' : Act → World → Prop} {ops : Array Oper} {tl : List Oper} (hk : ∀ a w, K a w → K' a w) (h : o.wp P a w K (sinkQ P ops Q tl)) : o.wp P a w K' Q := by
  unfold Oper.wp at *
  generalize (execOp a.eval o).run P w = r at *
  cases r with
  | ok n w' =>
    cases n <;> simp only [Oper.upon] at h ⊢ <;>
      first
        | exact hk _ _ h
        | exact Calls.mono h (fun e w'' he => by cases e <;> first | exact hk _ _ he | exact he)
        | exact Rows.mono h (fun _ _ he => hk _ _ he)
  | halt x w' => cases x <;> simp only [Oper.upon] at h ⊢ <;> exact h

theorem sink_op {i : Nat} (hb : backB md l n = true) (hi : i < n) {tl : List Oper} {a : Act} {w : World} {K K' : Act → World → Prop} (hk : ∀ a w, K a w → K' a w)
    (h : wpOp P (l.take n).toArray (sinkQ P l.toArray Q tl) i K a w) : wpOp P l.toArray Q i K' a w := by
  obtain ⟨o, ho, _, hg⟩ := backB_spec hb hi
  have h1 : l.toArray[i]? = some o := by simpa using ho
  have h2 : (l.take n).toArray[i]? = some o := by rw [head_at hi]; exact h1
  unfold wpOp at *
  rw [h1]
  rw [h2] at h
  simp only at h ⊢
  have hw : Region.wanted o (yielded (l.take n).toArray a.tmps) = Region.wanted o (yielded l.toArray a.tmps) := by
    unfold Region.wanted
    cases hgu : o.guard with
    | none => rfl
    | some gw =>
      obtain ⟨g, b⟩ := gw
      have := hg g b hgu
      simp only
      unfold yielded
      rw [head_at this]
  rw [hw] at h
  split at h
  · rename_i hh
    rw [if_pos hh]
    rcases h with h | ⟨h3, h4⟩
    · exact .inl (sink_wp hk h)
    · exact .inr ⟨h3, h4⟩
  · rename_i hh
    rw [if_neg hh]
    exact hk _ _ h

theorem sink_any {g : Nat} (hb : backB md l n = true) (hn : n < l.length) (hs : Region.sinkB md l.toArray n = true) (hc : Region.chainB md l.toArray n = true) (hg : n + g = l.length)
    (hq : Region.seqB md l.toArray g n (Array.replicate n true ++ Array.replicate g false) = true) :
    ∀ (f : Nat) (listed listed' : Array Bool) (a : Act) (w : World), HeadInv md l.toArray n listed → SinkR l n listed listed' →
      wpAny P md (l.take n).toArray (sinkQ P l.toArray Q (l.drop n)) f listed' a w → wpAny P md l.toArray Q (f + g) listed a w := by
  have base : ∀ (f : Nat) (listed listed' : Array Bool) (a : Act) (w : World), HeadInv md l.toArray n listed → SinkR l n listed listed' → Region.ready md (l.take n).toArray listed' = [] →
      sinkQ P l.toArray Q (l.drop n) .normal a w → wpAny P md l.toArray Q (f + g) listed a w := by
    intro f listed listed' a w inv r hr h
    have hall := sink_all hb r.size' hr
    have hls : listed.size = n + g := by rw [inv.size]; simp; omega
    have el : listed = Array.replicate n true ++ Array.replicate g false := by
      apply Array.ext
      · simp [hls]
      · intro j h1 h2
        rcases Nat.lt_or_ge j n with hj | hj
        · have e1 := (r.head j hj).trans (hall j hj)
          rw [Array.getElem_append_left (by simpa using hj)]
          simpa [h1] using e1
        · have e1 := inv.tail j hj (by rw [← inv.size]; exact h1)
          rw [Array.getElem_append_right (by simpa using hj)]
          simpa [h1] using e1
    refine wpAny_mores g listed a w ?_ f
    rw [el]
    have hdl : (l.drop n).length = g := by simp; omega
    have := wpAny_of_seq (md := md) (Q' := Q) (ops := l.toArray) (P := P) (l.drop n) n (Array.replicate n true ++ Array.replicate g false) a w (fun j => by simp [List.getElem?_drop]) (by rw [hdl]; exact hq) h
    rwa [hdl] at this
  intro f
  induction f with
  | zero => intro listed listed' a w inv r h; exact base 0 listed listed' a w inv r h.1 h.2
  | succ f ih =>
    intro listed listed' a w inv r h
    cases hr : Region.ready md (l.take n).toArray listed' with
    | nil => exact base (f + 1) listed listed' a w inv r hr (h.1 hr)
    | cons i0 is =>
      have hi0 : i0 ∈ Region.ready md (l.take n).toArray listed' := by rw [hr]; exact List.mem_cons_self
      have hi0n : i0 < n := by
        obtain ⟨_, o, ho, _⟩ := mem_ready.1 hi0
        have := (Array.getElem?_eq_some_iff.1 ho).1
        simp at this
        omega
      have hi0' := (sink_ready hb hn inv r hi0n).2 hi0
      rw [show f + 1 + g = (f + g) + 1 by omega]
      refine ⟨fun h0 => (by rw [h0] at hi0'; cases hi0'), fun i hi => ?_⟩
      have hin : i < n := by
        rcases Nat.lt_or_ge i n with h' | h'
        · exact h'
        · exact absurd hi (tail_waits hs hc (by simpa using hn) inv _ i0 rfl hi0n (mem_ready.1 hi0').1 i h')
      refine sink_op hb hin (fun a' w' h' => ih (listed.setIfInBounds i true) (listed'.setIfInBounds i true) a' w' (inv.set hi hin) ⟨by simp [r.size'], fun j hj => ?_⟩ h') (h.2 i ((sink_ready hb hn inv r hin).1 hi))
      by_cases hij : i = j
      · subst hij
        have h1 : i < listed.size := by rw [inv.size]; simp; omega
        have h2 : i < listed'.size := by rw [r.size']; exact hj
        simp [h1, h2]
      · rw [getD_set_ne false hij, getD_set_ne false hij]
        exact r.head j hj

/-- **The last operations apart.** -/
theorem wp_region_sink {id : Nat} {a : Act} {w : World} (n : Nat) (hm : P.follows .mixedOrders = true)
    (hB : (backB .any l n && decide (n < l.length) && Region.sinkB .any l.toArray n && Region.chainB .any l.toArray n && Region.seqB .any l.toArray (l.length - n) n (Array.replicate n true ++ Array.replicate (l.length - n) false)) = true)
    (h : wpAny P .any (l.take n).toArray (sinkQ P l.toArray Q (l.drop n)) (l.take n).toArray.size (Array.replicate (l.take n).toArray.size false) a w.drew) : (Code.region id l.toArray true).wp P Q a w := by
  simp only [Bool.and_eq_true, decide_eq_true_eq] at hB
  obtain ⟨⟨⟨⟨hb, hn⟩, hs⟩, hc⟩, hq⟩ := hB
  have htl : (l.take n).toArray.size = n := by simp; omega
  refine wp_region_any hm ?_
  have inv0 : HeadInv .any l.toArray n (Array.replicate l.toArray.size false) :=
    ⟨by simp, fun j oj _ hl => (by rw [getD_replicate_false] at hl; cases hl), fun t _ ht => getD_in (by simpa using ht) (getD_replicate_false _ _)⟩
  rw [htl] at h
  have := sink_any (md := .any) (g := l.length - n) hb hn hs hc (by omega) hq n _ (Array.replicate n false) a _ inv0 ⟨by simp, fun j hj => by rw [getD_replicate_false, getD_replicate_false]⟩ h
  rwa [show n + (l.length - n) = l.toArray.size by simp; omega] at this
end
end Go.Proofs.YtmgfceiomfiknaaDoor

/- Allocs of one type that may come up in any order: one way, with places that are letters. No condition but those that each theorem names. -/
namespace Go.Proofs.YtmgfceiomfiknaaDoor
open Go.RowKit Go.Sort

def dstAt (ops : Array Oper) (i : Nat) : Option Tmp := (ops[i]?).bind (·.dst)
def isAllocB (ops : Array Oper) (T : TypeId) (i : Nat) : Bool := match ops[i]? with
  | some o => o.guard.isNone && o.dst.isSome && (match o.op with | .alloc t => t == T | _ => false)
  | none => false
/-- The allocs is, and nothing else, may come up until all have come up. -/
def fanB (md : Region.Mode) (ops : Array Oper) (T : TypeId) : Nat → Array Bool → List Nat → Bool
  | 0, _, is => is.isEmpty
  | f + 1, listed, is => decide (Region.ready md ops listed = is) && is.all fun i => isAllocB ops T i && fanB md ops T f (listed.setIfInBounds i true) (is.erase i)
def allocN (w : World) (ob : Obj) : Nat → World
  | 0 => w
  | k + 1 => allocN (w.alloc ob) ob k
theorem Act.put_ne {a : Act} {d e : Option Tmp} {u v : Value} (h : d ≠ e ∨ d = none) : (a.put d u).put e v = (a.put e v).put d u := by
  cases d with
  | none => rfl
  | some d =>
    cases e with
    | none => rfl
    | some e =>
      have hne : d ≠ e := fun x => by rcases h with h | h; exact h (by rw [x]); cases h
      simp only [Act.put]
      congr 1
      exact Array.setIfInBounds_comm _ _ hne
theorem cell_allocS {w : World} {a : Addr} {v : Value} (o : Obj) (h : w.cell? a = some v) : (w.alloc o).cell? a = some v := (World.cell?_alloc_lt _ _ _ (World.block_lt_of_cell? w a h)).trans h
section
variable {P : Program} {ops : Array Oper} {Q : Exit → Act → World → Prop} {md : Region.Mode} {S : World → Prop}
theorem wpAnyH_fan (T : TypeId) (ob : Obj) (g : Nat) (hA : ∀ (o : Oper) (a : Act) (w : World), o.op = .alloc T → (execOp a.eval o).run P w = .ok (.value (.pointer (some ⟨w.heap.size, 0, none⟩))) (w.alloc ob))
    (hS : ∀ w, S w → S (w.alloc ob)) : ∀ (k : Nat) (is : List Nat) (listed : Array Bool) (a : Act) (w : World), is.length = k → is.Nodup → (∀ i ∈ is, ∀ j ∈ is, i ≠ j → dstAt ops i ≠ dstAt ops j) → fanB md ops T k listed is = true → S w →
    (∀ f : Nat → Nat, (∀ i ∈ is, w.heap.size ≤ f i ∧ f i < w.heap.size + k) → (∀ i ∈ is, ∀ j ∈ is, f i = f j → i = j) →
      wpAnyH P md ops Q S g (is.foldl (fun l i => l.setIfInBounds i true) listed) (is.foldl (fun a i => a.put (dstAt ops i) (.pointer (some ⟨f i, 0, none⟩))) a) (allocN w ob k)) →
    wpAnyH P md ops Q S (k + g) listed a w := by
  intro k
  induction k with
  | zero =>
    intro is listed a w hl _ _ _ _ H
    obtain rfl : is = [] := List.eq_nil_of_length_eq_zero hl
    rw [Nat.zero_add]
    exact H (fun _ => 0) (by simp) (by simp)
  | succ k ih =>
    intro is listed a w hl hnd hds hB hw H
    simp only [fanB, Bool.and_eq_true, decide_eq_true_eq] at hB
    obtain ⟨hr, hall⟩ := hB
    rw [show k + 1 + g = (k + g) + 1 by omega]
    refine ⟨fun h0 => ?_, fun i hi => ?_⟩
    · rw [hr] at h0; rw [h0] at hl; simp at hl
    · rw [hr] at hi
      have hb := List.all_eq_true.1 hall i hi
      simp only [Bool.and_eq_true] at hb
      obtain ⟨hal, hfan⟩ := hb
      have hdst : ∃ o d, ops[i]? = some o ∧ o.guard = none ∧ o.op = .alloc T ∧ o.dst = some d := by
        unfold isAllocB at hal
        cases ho : ops[i]? with
        | none => rw [ho] at hal; cases hal
        | some o =>
          rw [ho] at hal
          simp only [Bool.and_eq_true, Option.isNone_iff_eq_none] at hal
          obtain ⟨⟨h1, h2⟩, h3⟩ := hal
          obtain ⟨d, hd⟩ := Option.isSome_iff_exists.1 h2
          refine ⟨o, d, rfl, h1, ?_, hd⟩
          split at h3
          · rename_i t ht
            have : t = T := by simpa using h3
            rw [ht, this]
          · cases h3
      obtain ⟨o, d, ho, hg, hop, hd⟩ := hdst
      have hda : dstAt ops i = o.dst := by unfold dstAt; rw [ho]; rfl
      have hp : is.Perm (i :: is.erase i) := List.perm_cons_erase hi
      have hle : (is.erase i).length = k := by rw [List.length_erase_of_mem hi]; omega
      unfold wpOp
      rw [ho]
      simp only
      have hwa : Region.wanted o (yielded ops a.tmps) = true := by unfold Region.wanted; rw [hg]
      rw [if_pos hwa]
      refine .inl ?_
      unfold Oper.wp
      rw [hA o a w hop]
      refine ⟨hS w hw, ?_⟩
      refine ih (is.erase i) _ _ (w.alloc ob) hle (hnd.erase i) (fun x hx y hy => hds x (List.mem_of_mem_erase hx) y (List.mem_of_mem_erase hy)) hfan (hS w hw) ?_
      intro f h1 h2
      have hni : ∀ x ∈ is.erase i, x ≠ i := fun x hx e => by subst e; exact (List.Nodup.not_mem_erase hnd) hx
      have K := H (fun x => if x = i then w.heap.size else f x) (fun x hx => by
        by_cases e : x = i
        · simp only [if_pos e]; omega
        · simp only [if_neg e]
          have := h1 x ((List.mem_erase_of_ne e).2 hx)
          simp only [World.size_alloc] at this
          omega) (fun x hx y hy => by
        by_cases e : x = i
        · by_cases e' : y = i
          · intro _; rw [e, e']
          · simp only [if_pos e, if_neg e']
            have := h1 y ((List.mem_erase_of_ne e').2 hy)
            simp only [World.size_alloc] at this
            omega
        · by_cases e' : y = i
          · simp only [if_neg e, if_pos e']
            have := h1 x ((List.mem_erase_of_ne e).2 hx)
            simp only [World.size_alloc] at this
            omega
          · simp only [if_neg e, if_neg e']
            exact h2 x ((List.mem_erase_of_ne e).2 hx) y ((List.mem_erase_of_ne e').2 hy))
      have e1 : is.foldl (fun l i => l.setIfInBounds i true) listed = (is.erase i).foldl (fun l i => l.setIfInBounds i true) (listed.setIfInBounds i true) := by
        rw [hp.foldl_eq' (fun x _ y _ z => by
          by_cases e : x = y
          · rw [e]
          · exact Array.setIfInBounds_comm _ _ e)]
        rfl
      have e2 : is.foldl (fun a j => a.put (dstAt ops j) (.pointer (some ⟨if j = i then w.heap.size else f j, 0, none⟩))) a = (is.erase i).foldl (fun a j => a.put (dstAt ops j) (.pointer (some ⟨f j, 0, none⟩))) (a.put o.dst (.pointer (some ⟨w.heap.size, 0, none⟩))) := by
        rw [hp.foldl_eq' (fun x hx y hy z => by
          by_cases e : x = y
          · rw [e]
          · exact Act.put_ne (.inl (hds x hx y hy e)))]
        simp only [List.foldl_cons, if_true, hda]
        generalize a.put o.dst (.pointer (some ⟨w.heap.size, 0, none⟩)) = a0
        have : ∀ (l : List Nat) (a0 : Act), (∀ x ∈ l, x ≠ i) → l.foldl (fun a j => a.put (dstAt ops j) (.pointer (some ⟨if j = i then w.heap.size else f j, 0, none⟩))) a0 = l.foldl (fun a j => a.put (dstAt ops j) (.pointer (some ⟨f j, 0, none⟩))) a0 := by
          intro l
          induction l with
          | nil => intro a0 _; rfl
          | cons x l ihl =>
            intro a0 hx
            simp only [List.foldl_cons]
            rw [if_neg (hx x List.mem_cons_self)]
            exact ihl _ (fun y hy => hx y (List.mem_cons_of_mem _ hy))
        exact this _ _ hni
      rw [e1, e2] at K
      exact K
end
theorem allocN_B2 (T : TypeId) : ∀ (k : Nat) (w : World) (g : Nat), w.heap.size ≤ g → g < w.heap.size + k → B2 g 0 0 (allocN w (.cells #[.int .i64 0, .int .i64 0] T) k)
  | 0, _, g, h1, h2 => by omega
  | k + 1, w, g, h1, h2 => by
    rcases Nat.eq_or_lt_of_le h1 with h | h
    · have : ∀ (k : Nat) (W : World), B2 g 0 0 W → B2 g 0 0 (allocN W (.cells #[.int .i64 0, .int .i64 0] T) k) := by
        intro k
        induction k with
        | zero => intro W h; exact h
        | succ k ih => intro W h; exact ih _ (h.next (ext1 _ _))
      exact this k _ (B2.new_at 0 0 T h.symm)
    · exact allocN_B2 T k _ g (by simp; omega) (by simp; omega)
theorem allocN_below (ob : Obj) : ∀ (k : Nat) (w V : World), Below V.heap.size V w → Below V.heap.size V (allocN w ob k)
  | 0, _, _, h => h
  | k + 1, _, V, h => allocN_below ob k _ V (ext_alloc h ob)
/-- Four boxes of two numbers. -/
theorem wpAnyH_fan4 {P : Program} {ops : Array Oper} {Q : Exit → Act → World → Prop} {md : Region.Mode} {S : World → Prop} (T : TypeId) (g i3 i4 i5 i6 d3 d4 d5 d6 : Nat) (V : World)
    (hA : ∀ (o : Oper) (a : Act) (w : World), o.op = .alloc T → (execOp a.eval o).run P w = .ok (.value (.pointer (some ⟨w.heap.size, 0, none⟩))) (w.alloc (.cells #[.int .i64 0, .int .i64 0] T)))
    (hS : ∀ w, S w → S (w.alloc (.cells #[.int .i64 0, .int .i64 0] T))) {listed : Array Bool} {a : Act} {w : World} (hn : [i3, i4, i5, i6].Nodup) (hd : [d3, d4, d5, d6].Nodup)
    (e3 : dstAt ops i3 = some d3) (e4 : dstAt ops i4 = some d4) (e5 : dstAt ops i5 = some d5) (e6 : dstAt ops i6 = some d6) (hB : fanB md ops T 4 listed [i3, i4, i5, i6] = true) (hw : S w) (hV : Below V.heap.size V w)
    (K : ∀ (g3 g4 g5 g6 : Nat) (W : World), V.heap.size ≤ g3 → V.heap.size ≤ g4 → V.heap.size ≤ g5 → V.heap.size ≤ g6 → (¬ g3 = g4) → (¬ g3 = g5) → (¬ g3 = g6) → (¬ g4 = g5) → (¬ g4 = g6) → (¬ g5 = g6) →
      Hid (B2 g3 0 0 W) → Hid (B2 g4 0 0 W) → Hid (B2 g5 0 0 W) → Hid (B2 g6 0 0 W) → Hid (Below V.heap.size V W) →
      wpAnyH P md ops Q S g ((((listed.setIfInBounds i3 true).setIfInBounds i4 true).setIfInBounds i5 true).setIfInBounds i6 true) ((((a.put (some d3) (.pointer (some ⟨g3, 0, none⟩))).put (some d4) (.pointer (some ⟨g4, 0, none⟩))).put (some d5) (.pointer (some ⟨g5, 0, none⟩))).put (some d6) (.pointer (some ⟨g6, 0, none⟩))) W) :
    wpAnyH P md ops Q S (4 + g) listed a w := by
  have hn' := hn
  have hd' := hd
  simp only [List.nodup_cons, List.mem_cons, List.not_mem_nil, or_false, not_or, not_false_eq_true, List.nodup_nil, and_true] at hn hd
  obtain ⟨⟨n1, n2, n3⟩, ⟨n4, n5⟩, n6⟩ := hn
  obtain ⟨⟨m1, m2, m3⟩, ⟨m4, m5⟩, m6⟩ := hd
  refine wpAnyH_fan T (.cells #[.int .i64 0, .int .i64 0] T) g hA hS 4 [i3, i4, i5, i6] listed a w rfl hn' ?_ hB hw (fun f h1 h2 => ?_)
  · have key : ∀ i ∈ [i3, i4, i5, i6], (i = i3 ∧ dstAt ops i = some d3) ∨ (i = i4 ∧ dstAt ops i = some d4) ∨ (i = i5 ∧ dstAt ops i = some d5) ∨ (i = i6 ∧ dstAt ops i = some d6) := by
      intro i hi
      simp only [List.mem_cons, List.not_mem_nil, or_false] at hi
      rcases hi with rfl | rfl | rfl | rfl
      · exact .inl ⟨rfl, e3⟩
      · exact .inr (.inl ⟨rfl, e4⟩)
      · exact .inr (.inr (.inl ⟨rfl, e5⟩))
      · exact .inr (.inr (.inr ⟨rfl, e6⟩))
    intro i hi j hj hij he
    rcases key i hi with ⟨rfl, x⟩ | ⟨rfl, x⟩ | ⟨rfl, x⟩ | ⟨rfl, x⟩ <;> rcases key j hj with ⟨rfl, y⟩ | ⟨rfl, y⟩ | ⟨rfl, y⟩ | ⟨rfl, y⟩ <;> first | exact hij rfl | (rw [x, y] at he; injection he with he; omega)
  · have k3 := h1 i3 (by simp)
    have k4 := h1 i4 (by simp)
    have k5 := h1 i5 (by simp)
    have k6 := h1 i6 (by simp)
    have hs := hV.size
    have := K (f i3) (f i4) (f i5) (f i6) (allocN w (.cells #[.int .i64 0, .int .i64 0] T) 4) (by omega) (by omega) (by omega) (by omega)
      (fun h => n1 (h2 i3 (by simp) i4 (by simp) h)) (fun h => n2 (h2 i3 (by simp) i5 (by simp) h)) (fun h => n3 (h2 i3 (by simp) i6 (by simp) h)) (fun h => n4 (h2 i4 (by simp) i5 (by simp) h)) (fun h => n5 (h2 i4 (by simp) i6 (by simp) h)) (fun h => n6 (h2 i5 (by simp) i6 (by simp) h))
      (allocN_B2 T 4 w _ k3.1 k3.2) (allocN_B2 T 4 w _ k4.1 k4.2) (allocN_B2 T 4 w _ k5.1 k5.2) (allocN_B2 T 4 w _ k6.1 k6.2) (allocN_below _ 4 w V hV)
    simp only [List.foldl_cons, List.foldl_nil, e3, e4, e5, e6]
    exact this
end Go.Proofs.YtmgfceiomfiknaaDoor
