/- Allocs of one type that may come up in any order: one way, with places that are letters. No condition but those that each theorem names. -/
import Derived.Test.YtpgkellmhlmjeaaGreatDoorMgAB
import Derived.StillTail
import Derived.Deep.RegionHeld3
import Derived.Test.YtpgkellmhlmjeaaGreatDoorMgAE
namespace Go.Proofs.YtpgkellmhlmjeaaGreatDoor
open Go.RowKit Go.Sort
def dstAt (ops : Array Oper) (i : Nat) : Option Tmp := (ops[i]?).bind (·.dst)
def isAllocB (ops : Array Oper) (T : TypeId) (i : Nat) : Bool := match ops[i]? with
  | some o => o.guard.isNone && o.dst.isSome && (match o.op with | .alloc t => t == T | _ => false)
  | none => false
/-- The allocs is, and nothing else, may come up until all have come up. -/
def fanB (md : Region.Mode) (ops : Array Oper) (T : TypeId) : Nat → Array Bool → List Nat → Bool
  | 0, _, is => is.isEmpty
  | f + 1, listed, is => decide (Region.ready md ops listed = is) && is.all fun i => isAllocB ops T i && fanB md ops T f (listed.setIfInBounds i true) (is.erase i)
def allocN (w : World) (ob : Obj) : Nat → World
  | 0 => w
  | k + 1 => allocN (w.alloc ob) ob k
theorem Act.put_ne {a : Act} {d e : Option Tmp} {u v : Value} (h : d ≠ e ∨ d = none) : (a.put d u).put e v = (a.put e v).put d u := by
  cases d with
  | none => rfl
  | some d =>
    cases e with
    | none => rfl
    | some e =>
      have hne : d ≠ e := fun x => by rcases h with h | h; exact h (by rw [x]); cases h
      simp only [Act.put]
      congr 1
      exact Array.setIfInBounds_comm _ _ hne
section
variable {P : Program} {ops : Array Oper} {Q : Exit → Act → World → Prop} {md : Region.Mode} {S : World → Prop}
theorem wpAnyH_fan (T : TypeId) (ob : Obj) (g : Nat) (hA : ∀ (o : Oper) (a : Act) (w : World), o.op = .alloc T → (execOp a.eval o).run P w = .ok (.value (.pointer (some ⟨w.heap.size, 0, none⟩))) (w.alloc ob))
    (hS : ∀ w, S w → S (w.alloc ob)) : ∀ (k : Nat) (is : List Nat) (listed : Array Bool) (a : Act) (w : World), is.length = k → is.Nodup → (∀ i ∈ is, ∀ j ∈ is, i ≠ j → dstAt ops i ≠ dstAt ops j) → fanB md ops T k listed is = true → S w →
    (∀ f : Nat → Nat, (∀ i ∈ is, w.heap.size ≤ f i ∧ f i < w.heap.size + k) → (∀ i ∈ is, ∀ j ∈ is, f i = f j → i = j) →
      wpAnyH P md ops Q S g (is.foldl (fun l i => l.setIfInBounds i true) listed) (is.foldl (fun a i => a.put (dstAt ops i) (.pointer (some ⟨f i, 0, none⟩))) a) (allocN w ob k)) →
    wpAnyH P md ops Q S (k + g) listed a w := by
  intro k
  induction k with
  | zero =>
    intro is listed a w hl _ _ _ _ H
    obtain rfl : is = [] := List.eq_nil_of_length_eq_zero hl
    rw [Nat.zero_add]
    exact H (fun _ => 0) (by simp) (by simp)
  | succ k ih =>
    intro is listed a w hl hnd hds hB hw H
    simp only [fanB, Bool.and_eq_true, decide_eq_true_eq] at hB
    obtain ⟨hr, hall⟩ := hB
    rw [show k + 1 + g = (k + g) + 1 by omega]
    refine ⟨fun h0 => ?_, fun i hi => ?_⟩
    · rw [hr] at h0; rw [h0] at hl; simp at hl
    · rw [hr] at hi
      have hb := List.all_eq_true.1 hall i hi
      simp only [Bool.and_eq_true] at hb
      obtain ⟨hal, hfan⟩ := hb
      have hdst : ∃ o d, ops[i]? = some o ∧ o.guard = none ∧ o.op = .alloc T ∧ o.dst = some d := by
        unfold isAllocB at hal
        cases ho : ops[i]? with
        | none => rw [ho] at hal; cases hal
        | some o =>
          rw [ho] at hal
          simp only [Bool.and_eq_true, Option.isNone_iff_eq_none] at hal
          obtain ⟨⟨h1, h2⟩, h3⟩ := hal
          obtain ⟨d, hd⟩ := Option.isSome_iff_exists.1 h2
          refine ⟨o, d, rfl, h1, ?_, hd⟩
          split at h3
          · rename_i t ht
            have : t = T := by simpa using h3
            rw [ht, this]
          · cases h3
      obtain ⟨o, d, ho, hg, hop, hd⟩ := hdst
      have hda : dstAt ops i = o.dst := by unfold dstAt; rw [ho]; rfl
      have hp : is.Perm (i :: is.erase i) := List.perm_cons_erase hi
      have hle : (is.erase i).length = k := by rw [List.length_erase_of_mem hi]; omega
      unfold wpOp
      rw [ho]
      simp only
      have hwa : Region.wanted o (yielded ops a.tmps) = true := by unfold Region.wanted; rw [hg]
      rw [if_pos hwa]
      refine .inl ?_
      unfold Oper.wp
      rw [hA o a w hop]
      refine ⟨hS w hw, ?_⟩
      refine ih (is.erase i) _ _ (w.alloc ob) hle (hnd.erase i) (fun x hx y hy => hds x (List.mem_of_mem_erase hx) y (List.mem_of_mem_erase hy)) hfan (hS w hw) ?_
      intro f h1 h2
      have hni : ∀ x ∈ is.erase i, x ≠ i := fun x hx e => by subst e; exact (List.Nodup.not_mem_erase hnd) hx
      have K := H (fun x => if x = i then w.heap.size else f x) (fun x hx => by
        by_cases e : x = i
        · simp only [if_pos e]; omega
        · simp only [if_neg e]
          have := h1 x ((List.mem_erase_of_ne e).2 hx)
          simp only [World.size_alloc] at this
          omega) (fun x hx y hy => by
        by_cases e : x = i
        · by_cases e' : y = i
          · intro _; rw [e, e']
          · simp only [if_pos e, if_neg e']
            have := h1 y ((List.mem_erase_of_ne e').2 hy)
            simp only [World.size_alloc] at this
            omega
        · by_cases e' : y = i
          · simp only [if_neg e, if_pos e']
            have := h1 x ((List.mem_erase_of_ne e).2 hx)
            simp only [World.size_alloc] at this
            omega
          · simp only [if_neg e, if_neg e']
            exact h2 x ((List.mem_erase_of_ne e).2 hx) y ((List.mem_erase_of_ne e').2 hy))
      have e1 : is.foldl (fun l i => l.setIfInBounds i true) listed = (is.erase i).foldl (fun l i => l.setIfInBounds i true) (listed.setIfInBounds i true) := by
        rw [hp.foldl_eq' (fun x _ y _ z => by
          by_cases e : x = y
          · rw [e]
          · exact Array.setIfInBounds_comm _ _ e)]
        rfl
      have e2 : is.foldl (fun a j => a.put (dstAt ops j) (.pointer (some ⟨if j = i then w.heap.size else f j, 0, none⟩))) a = (is.erase i).foldl (fun a j => a.put (dstAt ops j) (.pointer (some ⟨f j, 0, none⟩))) (a.put o.dst (.pointer (some ⟨w.heap.size, 0, none⟩))) := by
        rw [hp.foldl_eq' (fun x hx y hy z => by
          by_cases e : x = y
          · rw [e]
          · exact Act.put_ne (.inl (hds x hx y hy e)))]
        simp only [List.foldl_cons, if_true, hda]
        generalize a.put o.dst (.pointer (some ⟨w.heap.size, 0, none⟩)) = a0
        have : ∀ (l : List Nat) (a0 : Act), (∀ x ∈ l, x ≠ i) → l.foldl (fun a j => a.put (dstAt ops j) (.pointer (some ⟨if j = i then w.heap.size else f j, 0, none⟩))) a0 = l.foldl (fun a j => a.put (dstAt ops j) (.pointer (some ⟨f j, 0, none⟩))) a0 := by
          intro l
          induction l with
          | nil => intro a0 _; rfl
          | cons x l ihl =>
            intro a0 hx
            simp only [List.foldl_cons]
            rw [if_neg (hx x List.mem_cons_self)]
            exact ihl _ (fun y hy => hx y (List.mem_cons_of_mem _ hy))
        exact this _ _ hni
      rw [e1, e2] at K
      exact K
end
theorem allocN_B2 (T : TypeId) : ∀ (k : Nat) (w : World) (g : Nat), w.heap.size ≤ g → g < w.heap.size + k → B2 g 0 0 (allocN w (.cells #[.int .i64 0, .int .i64 0] T) k)
  | 0, _, g, h1, h2 => by omega
  | k + 1, w, g, h1, h2 => by
    rcases Nat.eq_or_lt_of_le h1 with h | h
    · have : ∀ (k : Nat) (W : World), B2 g 0 0 W → B2 g 0 0 (allocN W (.cells #[.int .i64 0, .int .i64 0] T) k) := by
        intro k
        induction k with
        | zero => intro W h; exact h
        | succ k ih => intro W h; exact ih _ (h.next (ext1 _ _))
      exact this k _ (B2.new_at 0 0 T h.symm)
    · exact allocN_B2 T k _ g (by simp; omega) (by simp; omega)
theorem allocN_below (ob : Obj) : ∀ (k : Nat) (w V : World), Below V.heap.size V w → Below V.heap.size V (allocN w ob k)
  | 0, _, _, h => h
  | k + 1, _, V, h => allocN_below ob k _ V (ext_alloc h ob)
/-- Four boxes of two numbers. -/
theorem wpAnyH_fan4 {P : Program} {ops : Array Oper} {Q : Exit → Act → World → Prop} {md : Region.Mode} {S : World → Prop} (T : TypeId) (g i3 i4 i5 i6 d3 d4 d5 d6 : Nat) (V : World)
    (hA : ∀ (o : Oper) (a : Act) (w : World), o.op = .alloc T → (execOp a.eval o).run P w = .ok (.value (.pointer (some ⟨w.heap.size, 0, none⟩))) (w.alloc (.cells #[.int .i64 0, .int .i64 0] T)))
    (hS : ∀ w, S w → S (w.alloc (.cells #[.int .i64 0, .int .i64 0] T))) {listed : Array Bool} {a : Act} {w : World} (hn : [i3, i4, i5, i6].Nodup) (hd : [d3, d4, d5, d6].Nodup)
    (e3 : dstAt ops i3 = some d3) (e4 : dstAt ops i4 = some d4) (e5 : dstAt ops i5 = some d5) (e6 : dstAt ops i6 = some d6) (hB : fanB md ops T 4 listed [i3, i4, i5, i6] = true) (hw : S w) (hV : Below V.heap.size V w)
    (K : ∀ (g3 g4 g5 g6 : Nat) (W : World), V.heap.size ≤ g3 → V.heap.size ≤ g4 → V.heap.size ≤ g5 → V.heap.size ≤ g6 → (¬ g3 = g4) → (¬ g3 = g5) → (¬ g3 = g6) → (¬ g4 = g5) → (¬ g4 = g6) → (¬ g5 = g6) →
      Hid (B2 g3 0 0 W) → Hid (B2 g4 0 0 W) → Hid (B2 g5 0 0 W) → Hid (B2 g6 0 0 W) → Hid (Below V.heap.size V W) →
      wpAnyH P md ops Q S g ((((listed.setIfInBounds i3 true).setIfInBounds i4 true).setIfInBounds i5 true).setIfInBounds i6 true) ((((a.put (some d3) (.pointer (some ⟨g3, 0, none⟩))).put (some d4) (.pointer (some ⟨g4, 0, none⟩))).put (some d5) (.pointer (some ⟨g5, 0, none⟩))).put (some d6) (.pointer (some ⟨g6, 0, none⟩))) W) :
    wpAnyH P md ops Q S (4 + g) listed a w := by
  have hn' := hn
  have hd' := hd
  simp only [List.nodup_cons, List.mem_cons, List.not_mem_nil, or_false, not_or, not_false_eq_true, List.nodup_nil, and_true] at hn hd
  obtain ⟨⟨n1, n2, n3⟩, ⟨n4, n5⟩, n6⟩ := hn
  obtain ⟨⟨m1, m2, m3⟩, ⟨m4, m5⟩, m6⟩ := hd
  refine wpAnyH_fan T (.cells #[.int .i64 0, .int .i64 0] T) g hA hS 4 [i3, i4, i5, i6] listed a w rfl hn' ?_ hB hw (fun f h1 h2 => ?_)
  · have key : ∀ i ∈ [i3, i4, i5, i6], (i = i3 ∧ dstAt ops i = some d3) ∨ (i = i4 ∧ dstAt ops i = some d4) ∨ (i = i5 ∧ dstAt ops i = some d5) ∨ (i = i6 ∧ dstAt ops i = some d6) := by
      intro i hi
      simp only [List.mem_cons, List.not_mem_nil, or_false] at hi
      rcases hi with rfl | rfl | rfl | rfl
      · exact .inl ⟨rfl, e3⟩
      · exact .inr (.inl ⟨rfl, e4⟩)
      · exact .inr (.inr (.inl ⟨rfl, e5⟩))
      · exact .inr (.inr (.inr ⟨rfl, e6⟩))
    intro i hi j hj hij he
    rcases key i hi with ⟨rfl, x⟩ | ⟨rfl, x⟩ | ⟨rfl, x⟩ | ⟨rfl, x⟩ <;> rcases key j hj with ⟨rfl, y⟩ | ⟨rfl, y⟩ | ⟨rfl, y⟩ | ⟨rfl, y⟩ <;> first | exact hij rfl | (rw [x, y] at he; injection he with he; omega)
  · have k3 := h1 i3 (by simp)
    have k4 := h1 i4 (by simp)
    have k5 := h1 i5 (by simp)
    have k6 := h1 i6 (by simp)
    have hs := hV.size
    have := K (f i3) (f i4) (f i5) (f i6) (allocN w (.cells #[.int .i64 0, .int .i64 0] T) 4) (by omega) (by omega) (by omega) (by omega)
      (fun h => n1 (h2 i3 (by simp) i4 (by simp) h)) (fun h => n2 (h2 i3 (by simp) i5 (by simp) h)) (fun h => n3 (h2 i3 (by simp) i6 (by simp) h)) (fun h => n4 (h2 i4 (by simp) i5 (by simp) h)) (fun h => n5 (h2 i4 (by simp) i6 (by simp) h)) (fun h => n6 (h2 i5 (by simp) i6 (by simp) h))
      (allocN_B2 T 4 w _ k3.1 k3.2) (allocN_B2 T 4 w _ k4.1 k4.2) (allocN_B2 T 4 w _ k5.1 k5.2) (allocN_B2 T 4 w _ k6.1 k6.2) (allocN_below _ 4 w V hV)
    simp only [List.foldl_cons, List.foldl_nil, e3, e4, e5, e6]
    exact this
end Go.Proofs.YtpgkellmhlmjeaaGreatDoor
