/- A region that draws and whose last operations come one after the other behind all the rest: these apart, the rest as a region of its own. No condition but those that each theorem names. -/
import Derived.Test.YtjgafjbccfjojaaGreatMgAA
import Derived.StillTail
import Derived.Deep.RegionHeld3
namespace Go.Proofs.YtjgafjbccfjojaaGreat
open Go.RowKit Go.Sort
/-- What the rest of a region must lead to: the last operations, one after the other. -/
def sinkQ (P : Program) (ops : Array Oper) (Q : Exit → Act → World → Prop) (tl : List Oper) : Exit → Act → World → Prop
  | .normal, a, w => wpList P ops Q tl a w
  | .exit i, a, w => Q (.exit i) a w
  | .goto l, a, w => Q (.goto l) a w
  | .ret, a, w => Q .ret a w
  | .panic c, a, w => Q (.panic c) a w
  | .outgrown, a, w => Q .outgrown a w
/-- All edges and guards lead back. -/
def backB (md : Region.Mode) (l : List Oper) (n : Nat) : Bool :=
  (List.range n).all fun j => match l[j]? with
    | some o => (o.after.all fun e => !Region.binds md e || decide (e.on < j)) && (match o.guard with | some (g, _) => decide (g < n) | none => true)
    | none => false
section
variable {P : Program} {md : Region.Mode} {l : List Oper} {n : Nat} {Q : Exit → Act → World → Prop}
theorem wpAny_more {ops : Array Oper} : ∀ (f : Nat) (listed : Array Bool) (a : Act) (w : World), wpAny P md ops Q f listed a w → wpAny P md ops Q (f + 1) listed a w
  | 0, listed, a, w, h => ⟨fun _ => h.2, fun i hi => by rw [h.1] at hi; cases hi⟩
  | f + 1, listed, a, w, h => ⟨h.1, fun i hi => wpOp_mono (fun a' w' h' => wpAny_more f _ a' w' h') (h.2 i hi)⟩
theorem wpAny_mores {ops : Array Oper} (g : Nat) (listed : Array Bool) (a : Act) (w : World) (h : wpAny P md ops Q g listed a w) : ∀ f, wpAny P md ops Q (f + g) listed a w
  | 0 => by rw [Nat.zero_add]; exact h
  | f + 1 => by rw [show f + 1 + g = (f + g) + 1 by omega]; exact wpAny_more _ _ _ _ (wpAny_mores g listed a w h f)
/-- What is listed of the whole region, and of its head. -/
structure SinkR (l : List Oper) (n : Nat) (listed listed' : Array Bool) : Prop where
  size' : listed'.size = n
  head : ∀ j, j < n → listed.getD j false = listed'.getD j false
theorem getD_bool {listed : Array Bool} {j : Nat} (hj : j < listed.size) : listed.getD j true = listed.getD j false := by simp [hj]
theorem backB_spec (hb : backB md l n = true) {j : Nat} (hj : j < n) : ∃ o, l[j]? = some o ∧ (∀ e ∈ o.after, Region.binds md e = true → e.on < j) ∧ ∀ g b, o.guard = some (g, b) → g < n := by
  have h := List.all_eq_true.1 hb j (List.mem_range.2 hj)
  cases ho : l[j]? with
  | none => rw [ho] at h; cases h
  | some o =>
    rw [ho] at h
    simp only [Bool.and_eq_true] at h
    refine ⟨o, rfl, fun e he hbe => ?_, fun g b hg => ?_⟩
    · have := Array.all_eq_true'.1 h.1 e he
      rw [hbe] at this
      simpa using this
    · have := h.2
      rw [hg] at this
      simpa using this
theorem head_at {j : Nat} (hj : j < n) : (l.take n).toArray[j]? = l.toArray[j]? := by simp [hj]
theorem sink_ready {listed listed' : Array Bool} (hb : backB md l n = true) (hn : n < l.length) (inv : HeadInv md l.toArray n listed) (r : SinkR l n listed listed') {i : Nat} (hi : i < n) :
    i ∈ Region.ready md l.toArray listed ↔ i ∈ Region.ready md (l.take n).toArray listed' := by
  obtain ⟨o, ho, he, _⟩ := backB_spec hb hi
  have hs : listed.size = l.length := by rw [inv.size]; simp
  have e1 : listed.getD i true = listed'.getD i true := by
    rw [getD_bool (by omega), getD_bool (by rw [r.size']; exact hi)]
    exact r.head i hi
  rw [mem_ready, mem_ready, e1, head_at hi]
  refine and_congr_right fun _ => ⟨fun ⟨o', ho', h⟩ => ⟨o', ho', fun e hem hbe => ?_⟩, fun ⟨o', ho', h⟩ => ⟨o', ho', fun e hem hbe => ?_⟩⟩
  · have eo : o' = o := by
      have : l.toArray[i]? = some o := by simpa using ho
      exact Option.some.inj (ho'.symm.trans this)
    subst eo
    have := he e hem hbe
    rw [← r.head _ (by omega)]
    exact h e hem hbe
  · have eo : o' = o := by
      have : l.toArray[i]? = some o := by simpa using ho
      exact Option.some.inj (ho'.symm.trans this)
    subst eo
    have := he e hem hbe
    rw [r.head _ (by omega)]
    exact h e hem hbe
theorem sink_all {listed' : Array Bool} (hb : backB md l n = true) (hs : listed'.size = n) (h : Region.ready md (l.take n).toArray listed' = []) : ∀ j, j < n → listed'.getD j false = true := by
  intro j
  induction j using Nat.strongRecOn with
  | _ j ih =>
    intro hj
    cases hl : listed'.getD j false with
    | true => rfl
    | false =>
      exfalso
      obtain ⟨o, ho, he, _⟩ := backB_spec hb hj
      have : j ∈ Region.ready md (l.take n).toArray listed' := mem_ready.2 ⟨by rw [getD_bool (by omega)]; exact hl, o, by rw [head_at hj]; simpa using ho, fun e hem hbe => ih _ (he e hem hbe) (by have := he e hem hbe; omega)⟩
      rw [h] at this
      cases this
theorem sink_wp {o : Oper} {a : Act} {w : World} {K K' : Act → World → Prop} {ops : Array Oper} {tl : List Oper} (hk : ∀ a w, K a w → K' a w) (h : o.wp P a w K (sinkQ P ops Q tl)) : o.wp P a w K' Q := by
  unfold Oper.wp at *
  generalize (execOp a.eval o).run P w = r at *
  cases r with
  | ok n w' =>
    cases n <;> simp only [Oper.upon] at h ⊢ <;>
      first
        | exact hk _ _ h
        | exact Calls.mono h (fun e w'' he => by cases e <;> first | exact hk _ _ he | exact he)
        | exact Rows.mono h (fun _ _ he => hk _ _ he)
  | halt x w' => cases x <;> simp only [Oper.upon] at h ⊢ <;> exact h
theorem sink_op {i : Nat} (hb : backB md l n = true) (hi : i < n) {tl : List Oper} {a : Act} {w : World} {K K' : Act → World → Prop} (hk : ∀ a w, K a w → K' a w)
    (h : wpOp P (l.take n).toArray (sinkQ P l.toArray Q tl) i K a w) : wpOp P l.toArray Q i K' a w := by
  obtain ⟨o, ho, _, hg⟩ := backB_spec hb hi
  have h1 : l.toArray[i]? = some o := by simpa using ho
  have h2 : (l.take n).toArray[i]? = some o := by rw [head_at hi]; exact h1
  unfold wpOp at *
  rw [h1]
  rw [h2] at h
  simp only at h ⊢
  have hw : Region.wanted o (yielded (l.take n).toArray a.tmps) = Region.wanted o (yielded l.toArray a.tmps) := by
    unfold Region.wanted
    cases hgu : o.guard with
    | none => rfl
    | some gw =>
      obtain ⟨g, b⟩ := gw
      have := hg g b hgu
      simp only
      unfold yielded
      rw [head_at this]
  rw [hw] at h
  split at h
  · rename_i hh
    rw [if_pos hh]
    rcases h with h | ⟨h3, h4⟩
    · exact .inl (sink_wp hk h)
    · exact .inr ⟨h3, h4⟩
  · rename_i hh
    rw [if_neg hh]
    exact hk _ _ h
theorem sink_any {g : Nat} (hb : backB md l n = true) (hn : n < l.length) (hs : Region.sinkB md l.toArray n = true) (hc : Region.chainB md l.toArray n = true) (hg : n + g = l.length)
    (hq : Region.seqB md l.toArray g n (Array.replicate n true ++ Array.replicate g false) = true) :
    ∀ (f : Nat) (listed listed' : Array Bool) (a : Act) (w : World), HeadInv md l.toArray n listed → SinkR l n listed listed' →
      wpAny P md (l.take n).toArray (sinkQ P l.toArray Q (l.drop n)) f listed' a w → wpAny P md l.toArray Q (f + g) listed a w := by
  have base : ∀ (f : Nat) (listed listed' : Array Bool) (a : Act) (w : World), HeadInv md l.toArray n listed → SinkR l n listed listed' → Region.ready md (l.take n).toArray listed' = [] →
      sinkQ P l.toArray Q (l.drop n) .normal a w → wpAny P md l.toArray Q (f + g) listed a w := by
    intro f listed listed' a w inv r hr h
    have hall := sink_all hb r.size' hr
    have hls : listed.size = n + g := by rw [inv.size]; simp; omega
    have el : listed = Array.replicate n true ++ Array.replicate g false := by
      apply Array.ext
      · simp [hls]
      · intro j h1 h2
        rcases Nat.lt_or_ge j n with hj | hj
        · have e1 := (r.head j hj).trans (hall j hj)
          rw [Array.getElem_append_left (by simpa using hj)]
          simpa [h1] using e1
        · have e1 := inv.tail j hj (by rw [← inv.size]; exact h1)
          rw [Array.getElem_append_right (by simpa using hj)]
          simpa [h1] using e1
    refine wpAny_mores g listed a w ?_ f
    rw [el]
    have hdl : (l.drop n).length = g := by simp; omega
    have := wpAny_of_seq (md := md) (Q' := Q) (ops := l.toArray) (P := P) (l.drop n) n (Array.replicate n true ++ Array.replicate g false) a w (fun j => by simp [List.getElem?_drop]) (by rw [hdl]; exact hq) h
    rwa [hdl] at this
  intro f
  induction f with
  | zero => intro listed listed' a w inv r h; exact base 0 listed listed' a w inv r h.1 h.2
  | succ f ih =>
    intro listed listed' a w inv r h
    cases hr : Region.ready md (l.take n).toArray listed' with
    | nil => exact base (f + 1) listed listed' a w inv r hr (h.1 hr)
    | cons i0 is =>
      have hi0 : i0 ∈ Region.ready md (l.take n).toArray listed' := by rw [hr]; exact List.mem_cons_self
      have hi0n : i0 < n := by
        obtain ⟨_, o, ho, _⟩ := mem_ready.1 hi0
        have := (Array.getElem?_eq_some_iff.1 ho).1
        simp at this
        omega
      have hi0' := (sink_ready hb hn inv r hi0n).2 hi0
      rw [show f + 1 + g = (f + g) + 1 by omega]
      refine ⟨fun h0 => (by rw [h0] at hi0'; cases hi0'), fun i hi => ?_⟩
      have hin : i < n := by
        rcases Nat.lt_or_ge i n with h' | h'
        · exact h'
        · exact absurd hi (tail_waits hs hc (by simpa using hn) inv _ i0 rfl hi0n (mem_ready.1 hi0').1 i h')
      refine sink_op hb hin (fun a' w' h' => ih (listed.setIfInBounds i true) (listed'.setIfInBounds i true) a' w' (inv.set hi hin) ⟨by simp [r.size'], fun j hj => ?_⟩ h') (h.2 i ((sink_ready hb hn inv r hin).1 hi))
      by_cases hij : i = j
      · subst hij
        have h1 : i < listed.size := by rw [inv.size]; simp; omega
        have h2 : i < listed'.size := by rw [r.size']; exact hj
        simp [h1, h2]
      · rw [getD_set_ne false hij, getD_set_ne false hij]
        exact r.head j hj
/-- **The last operations apart.** -/
theorem wp_region_sink {id : Nat} {a : Act} {w : World} (n : Nat) (hm : P.follows .mixedOrders = true)
    (hB : (backB .any l n && decide (n < l.length) && Region.sinkB .any l.toArray n && Region.chainB .any l.toArray n && Region.seqB .any l.toArray (l.length - n) n (Array.replicate n true ++ Array.replicate (l.length - n) false)) = true)
    (h : wpAny P .any (l.take n).toArray (sinkQ P l.toArray Q (l.drop n)) (l.take n).toArray.size (Array.replicate (l.take n).toArray.size false) a w.drew) : (Code.region id l.toArray true).wp P Q a w := by
  simp only [Bool.and_eq_true, decide_eq_true_eq] at hB
  obtain ⟨⟨⟨⟨hb, hn⟩, hs⟩, hc⟩, hq⟩ := hB
  have htl : (l.take n).toArray.size = n := by simp; omega
  refine wp_region_any hm ?_
  have inv0 : HeadInv .any l.toArray n (Array.replicate l.toArray.size false) :=
    ⟨by simp, fun j oj _ hl => (by rw [getD_replicate_false] at hl; cases hl), fun t _ ht => getD_in (by simpa using ht) (getD_replicate_false _ _)⟩
  rw [htl] at h
  have := sink_any (md := .any) (g := l.length - n) hb hn hs hc (by omega) hq n _ (Array.replicate n false) a _ inv0 ⟨by simp, fun j hj => by rw [getD_replicate_false, getD_replicate_false]⟩ h
  rwa [show n + (l.length - n) = l.toArray.size by simp; omega] at this
end
end Go.Proofs.YtjgafjbccfjojaaGreat
