/- One note more in a slice of notes of one's own: the plain part. No condition but those that each theorem names. -/
import Derived.Test.YtdjnblkgeaphmaaRunNtP
import Derived.Test.YtdjnblkgeaphmaaCopyNtW
import Derived.Lib.Overlaps
namespace Go.Proofs.Ytdjnblkgeaphmaa
open Go.RowKit Go.Sort

section
variable {P : Program} {w : World} {ops : Array Oper} {o : Oper} {a : Act} {K : Act → World → Prop} {Q : Exit → Act → World → Prop} {E : Prop}
theorem copy_grown {g : Nat} {cs : Array Value} : w.grownBy (w.setRow g cs) (some g) := ⟨rfl, rfl, rfl, by simp, fun k _ hk => setRow_other w g k _ (fun e => hk (by simp [e]))⟩
theorem list_copy_row {rest : List Oper} (hgd : o.guard = none) (d x : Operand) (dT sT : TypeId) (hop : o.op = Op.call { callee := Callee.builtin Builtin.copy, args := #[d, x], argTypes := #[dT, sT] })
    (elem : TypeId) (sz : Nat) (hu : P.underlying dT = some (.slice elem)) (hs : (P.info? elem).map (·.size) = some sz)
    (g off dLen dCap : Nat) (ad : Addr) (sLen sCap : Nat) (hd : a.eval d = .slice (some ⟨g, off, none⟩) dLen dCap) (hx : a.eval x = .slice (some ad) sLen sCap)
    (cur : List Value) (t : TypeId) (hg : w.heap[g]? = some (.cells cur.toArray t (0, 0))) (cs : List Value) (hn : cs.length = Nat.min sLen dLen * sz)
    (hsrc : ∀ j v, cs[j]? = some v → w.cell? (ad.add j) = some v) (hfit : off + cs.length ≤ cur.length) (h1 : ∀ v ∈ cs, v.oneCell' = true)
    (h : ∀ w', Hid (w'.heap[g]? = some (.cells (splice cur off cs).toArray t (0, 0))) → w.grownBy w' (some g) → wpList P ops Q rest (a.put o.dst (goInt (Nat.min sLen dLen))) w') : wpList P ops Q (o :: rest) a w :=
  list_copy_eq hgd d x dT sT hop _ _ hd hx (run_copyS w dT sT o.type elem sz g off dLen dCap ad sLen sCap cur.toArray t cs hu hs hg hn hsrc (by simpa using hfit) h1) (h _ (show _ = _ by simpa using setRow_heap w g cur.toArray _ t _ hg) copy_grown)
theorem step_copy_row (hgd : o.guard = none) (d x : Operand) (dT sT : TypeId) (hop : o.op = Op.call { callee := Callee.builtin Builtin.copy, args := #[d, x], argTypes := #[dT, sT] })
    (elem : TypeId) (sz : Nat) (hu : P.underlying dT = some (.slice elem)) (hs : (P.info? elem).map (·.size) = some sz)
    (g off dLen dCap : Nat) (ad : Addr) (sLen sCap : Nat) (hd : a.eval d = .slice (some ⟨g, off, none⟩) dLen dCap) (hx : a.eval x = .slice (some ad) sLen sCap)
    (cur : List Value) (t : TypeId) (hg : w.heap[g]? = some (.cells cur.toArray t (0, 0))) (cs : List Value) (hn : cs.length = Nat.min sLen dLen * sz)
    (hsrc : ∀ j v, cs[j]? = some v → w.cell? (ad.add j) = some v) (hfit : off + cs.length ≤ cur.length) (h1 : ∀ v ∈ cs, v.oneCell' = true)
    (h : ∀ w', Hid (w'.heap[g]? = some (.cells (splice cur off cs).toArray t (0, 0))) → w.grownBy w' (some g) → K (a.put o.dst (goInt (Nat.min sLen dLen))) w') :
    if Region.wanted o (yielded ops a.tmps) = true then Oper.wp P o a w K Q else E :=
  step_copy_eq hgd d x dT sT hop _ _ hd hx (run_copyS w dT sT o.type elem sz g off dLen dCap ad sLen sCap cur.toArray t cs hu hs hg hn hsrc (by simpa using hfit) h1) (h _ (show _ = _ by simpa using setRow_heap w g cur.toArray _ t _ hg) copy_grown)
/-- An append of a made slice to a row without room. -/
theorem list_append_make {rest : List Oper} (hgd : o.guard = none) (s x : Operand) (t tn : TypeId)
    (ho : o.op = .call { callee := .builtin .append, args := #[s, x], argTypes := #[t, tn] }) (e : TypeId) (i : TypeInfo) (z : Value) (size bytes : Nat) (ht : P.underlying t = some (.slice e)) (htn : P.underlying tn = some (.int .i64)) (hi : P.info? e = some i) (hz : i.zero = some z)
    (hsize : i.size = size) (hby : i.bytes = bytes) (hzs : z.cells.size = size) (hsz : 0 < size)
    (g n cap : Nat) (zk : Int) (k : Nat) (hs : a.eval s = .slice (some ⟨g, 0, none⟩) n cap) (hx : a.eval x = .int .i64 zk) (hk : zk = (k : Int)) (olds : List Value) (hol : olds.length = n * size) (hold : ∀ j v, olds[j]? = some v → w.cell? ((⟨g, 0, none⟩ : Addr).add j) = some v)
    (h0 : 0 < k) (hg : cap < n + k) (h63 : n + k ≤ maxLen) (hbytes : (n + k) * bytes ≤ 140737488355328)
    (h : ∀ w' gcap (cur : List Value), Hid (w'.heap[w.heap.size]? = some (.cells cur.toArray e (0, 0))) → Hid (cur.length = gcap * size ∧ cur.take (n * size) = olds ∧ n + k ≤ gcap ∧ gcap ≤ maxLen) → w.grownBy w' none → wpList P ops Q rest (a.put o.dst (.slice (some ⟨w.heap.size, 0, none⟩) (n + k) gcap)) w') :
    wpList P ops Q (o :: rest) a w := by
  subst hsize
  subst hby
  subst hk
  have hm : n + k ≤ 9223372036854775807 := by unfold maxLen at h63; omega
  have hf : (Builtin.firstCells i.size n (.slice (some ⟨g, 0, none⟩) n cap)).run P w.drew = .ok olds.toArray w.drew := run_firstCells_some w.drew i.size n ⟨g, 0, none⟩ n cap olds hol hold
  have hkb : k * i.bytes ≤ (n + k) * i.bytes := Nat.mul_le_mul_right _ (by omega)
  have hr := Lib.run_append_grow_zeros w t tn o.type e i z .i64 .i64 ht htn hi hz (some ⟨g, 0, none⟩) n cap olds hf k h0 hsz hg (by omega) (by omega) (growslice_fits hg hbytes)
  have hge := grownCap_ge w (n + k) cap e
  have hcm := grownCap_le_maxLen w (n + k) cap e h63
  refine Lib.wpList_append_run w hgd s x t tn ho _ _ hs hx _ _ hr (h _ _ (olds ++ (Builtin.zeroCells z.cells k).toList ++ (Builtin.zeroCells z.cells (grownCap w (n + k) cap e - (n + k))).toList) ?_ ⟨?_, ?_, hge, hcm⟩ ⟨rfl, rfl, rfl, by simp, fun j hj hne => (World.grownBy_alloc w.drew _ none).block j hj hne⟩)
  · show _ = _
    have := heap_alloc_new w.drew (.cells (olds.toArray ++ Builtin.zeroCells z.cells k ++ Builtin.zeroCells z.cells (grownCap w (n + k) cap e - (n + k))) e)
    rw [show w.drew.heap.size = w.heap.size from rfl] at this
    rw [this]
    congr 2
    apply Array.ext'
    simp
  · simp only [List.length_append, Array.length_toList, size_zeroCells, hzs, hol]
    rw [← Nat.add_mul, ← Nat.add_mul]
    congr 1
    omega
  · rw [List.append_assoc, ← hol]
    exact List.take_left
end
theorem grownBy_trans2 {a b c : World} {r s : Option Nat} (h1 : a.grownBy b r) (h2 : b.grownBy c s) (hs : ∀ k, s = some k → r = some k ∨ a.heap.size ≤ k) : a.grownBy c r :=
  ⟨h2.os.trans h1.os, h2.tape.trans h1.tape, h2.output.trans h1.output, Nat.le_trans h1.size h2.size, fun k hk hne => (h2.block k (Nat.lt_of_lt_of_le hk h1.size) (fun e => by
    rcases hs k e.symm with e2 | e2
    · exact hne e2.symm
    · omega)).trans (h1.block k hk hne)⟩
theorem grownBy_none {a b : World} (h : a.grownBy b none) (r : Option Nat) : a.grownBy b r := ⟨h.os, h.tape, h.output, h.size, fun k hk _ => h.block k hk (by simp)⟩
/-- One more note at place i: its terms are new; the row is the old one or a new one. -/
theorem OutNt.insert {w : World} {base : Nat} {rs : List NtR} {own : Nat → Nat} {v : Value} {W W2 W2a w3 : World} (h : OutNt w base rs own v W) {x : Nt} {T : Option Addr} {c i : Nat} (hi : i ≤ rs.length) (hb2 : Below W.heap.size W W2) (hT : WrT W2 W.heap.size T c x.terms) (hb2a : Below W2.heap.size W2 W2a)
    {g cap : Nat} (hown3 : w3.ownsRow base 30 8 (.slice (some ⟨g, 0, none⟩) (rs.length + 1) cap) (rs.length + 1) (flatR (rs.take i ++ [⟨x, T, c⟩] ++ rs.drop i))) (hg : W2a.grownBy w3 v.ownBlock) (hat : v.ownBlock = some g ∨ g = W2a.heap.size) :
    OutNt w base (rs.take i ++ [⟨x, T, c⟩] ++ rs.drop i) (fun t => if W2.heap.size ≤ t then 0 else if W.heap.size ≤ t then i + 1 else if own t ≤ i then own t else own t + 1) (.slice (some ⟨g, 0, none⟩) (rs.length + 1) cap) w3 := by
  have hV := fun k hk => h.row.lt k hk
  have s1 := hb2.size
  have s2 := hb2a.size
  have s3 := hg.size
  have hl : (rs.take i ++ [(⟨x, T, c⟩ : NtR)] ++ rs.drop i).length = rs.length + 1 := by simp only [List.length_append, List.length_take, List.length_drop, List.length_cons, List.length_nil]; omega
  have old : ∀ (j : Nat) (r : NtR), rs[j]? = some r → WrT w3 base r.T r.c r.x.terms ∧ ∀ t o m, r.T = some ⟨t, o, m⟩ → 0 < r.x.terms.length → own t = j + 1 ∧ t < W.heap.size := fun j r hr => by
    obtain ⟨t1, t2⟩ := h.ts j r hr
    refine ⟨((t1.below hb2).below hb2a).grown hg fun t o m e hn e2 => ?_, fun t o m e hn => t2 t o m e hn⟩
    have h1 := (t2 t o m e hn).1
    have h2 := h.own0 t e2.symm
    omega
  refine ⟨by rw [hl]; exact hown3, fun j r hr => ?_, fun g' e => ?_, below_grown (ext_trans (ext_trans h.bel hb2) hb2a) (own_below (own_below h.row hb2) hb2a) h.low hg, h.low, by have := h.hi; omega⟩
  · rcases Nat.lt_trichotomy j i with hj | hj | hj
    · rw [List.append_assoc, List.getElem?_append_left (by rw [List.length_take]; omega), List.getElem?_take, if_pos hj] at hr
      obtain ⟨o1, o2⟩ := old j r hr
      refine ⟨o1, fun t o m e hn => ?_⟩
      obtain ⟨q1, q2⟩ := o2 t o m e hn
      refine ⟨?_, by omega⟩
      show (if _ then _ else _) = _
      rw [if_neg (by omega), if_neg (by omega), if_pos (by omega)]
      exact q1
    · subst hj
      rw [List.append_assoc, List.getElem?_append_right (by rw [List.length_take]; omega), List.length_take, show j - min j rs.length = 0 by omega] at hr
      simp at hr
      subst hr
      have hlo : ∀ t o m, T = some ⟨t, o, m⟩ → 0 < x.terms.length → W.heap.size ≤ t ∧ t < W2.heap.size := fun t o m e hn => by
        obtain ⟨tb, to, e2, q1, q2, _⟩ := hT.1 hn
        rw [e] at e2
        injection e2 with e2
        injection e2 with e2
        subst e2
        exact ⟨q1, q2⟩
      refine ⟨(((hT.below hb2a).grown hg fun t o m e hn e2 => ?_).more h.hi), fun t o m e hn => ?_⟩
      · have := (hV t e2.symm).2
        have := (hlo t o m e hn).1
        omega
      · obtain ⟨q1, q2⟩ := hlo t o m e hn
        refine ⟨?_, by omega⟩
        show (if _ then _ else _) = _
        rw [if_neg (by omega), if_pos q1]
    · rw [List.getElem?_append_right (by simp only [List.length_append, List.length_take, List.length_cons, List.length_nil]; omega), List.getElem?_drop] at hr
      have hr' : rs[j - 1]? = some r := by
        rw [← hr]
        congr 1
        simp only [List.length_append, List.length_take, List.length_cons, List.length_nil]
        omega
      obtain ⟨o1, o2⟩ := old (j - 1) r hr'
      refine ⟨o1, fun t o m e hn => ?_⟩
      obtain ⟨q1, q2⟩ := o2 t o m e hn
      refine ⟨?_, by omega⟩
      show (if _ then _ else _) = _
      rw [if_neg (by omega), if_neg (by omega), if_neg (by omega)]
      omega
  · have eg : g = g' := by
      have : some g = some g' := e
      injection this
    subst eg
    show (if _ then _ else _) = _
    rcases hat with e2 | e2
    · have := (hV g e2).2
      have h0 := h.own0 g e2
      rw [if_neg (by omega), if_neg (by omega), if_pos (by omega)]
      exact h0
    · rw [if_pos (by omega)]
theorem splice_room {α : Type} (P D R C : List α) (hC : C.length = 8) (hR : 8 ≤ R.length) : splice (splice (P ++ D ++ R) (P.length + 8) D) P.length C = P ++ C ++ D ++ R.drop 8 := by
  have e1 : splice (P ++ D ++ R) (P.length + 8) D = P ++ ((D ++ R).take 8 ++ (D ++ R.drop 8)) := by
    unfold splice
    rw [List.append_assoc, List.take_append, List.take_of_length_le (by omega), show P.length + 8 - P.length = 8 by omega, List.append_assoc, List.drop_append, List.drop_eq_nil_of_le (by omega), List.nil_append,
      show P.length + 8 + D.length - P.length = D.length + 8 by omega, ← List.drop_drop, List.drop_left]
  rw [e1]
  rw [splice_mid, hC, List.drop_left' (by rw [List.length_take, List.length_append]; omega)]
  simp only [List.append_assoc]
theorem splice_grow {α : Type} (P D L C : List α) (hC : C.length = 8) (hP : L.take P.length = P) : (splice (splice L P.length C) (P.length + 8) D).take (P.length + 8 + D.length) = P ++ C ++ D := by
  have e1 : splice L P.length C = (P ++ C) ++ L.drop (P.length + C.length) := by
    unfold splice
    rw [hP, List.append_assoc]
  have e2 : P.length + 8 = (P ++ C).length := by rw [List.length_append, hC]
  rw [e1, e2, splice_mid, ← List.length_append, List.take_left]
end Go.Proofs.Ytdjnblkgeaphmaa
