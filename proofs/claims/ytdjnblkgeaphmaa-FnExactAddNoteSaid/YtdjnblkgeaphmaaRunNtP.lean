/- Copies within a row of wide elements, appends within its room, clearing: run equations, and how a walk takes them. No condition but those that each theorem names. -/
import Derived.Test.YtdjnblkgeaphmaaCopyNtP
import Derived.Laws.CopyOwn
import Derived.Deep.DeepAppendRoom
import Derived.Lib.AppendZerosOnto
namespace Go.Proofs.Ytdjnblkgeaphmaa
open Go.RowKit Go.Sort

section
variable {P : Program} (w : World)
theorem run_copyS (dT sT ty elem : TypeId) (sz : Nat) (g o dLen dCap : Nat) (a : Addr) (sLen sCap : Nat) (cur : Array Value) (t : TypeId) (cs : List Value)
    (hu : P.underlying dT = some (.slice elem)) (hs : (P.info? elem).map (·.size) = some sz)
    (hg : w.heap[g]? = some (.cells cur t (0, 0))) (hn : cs.length = Nat.min sLen dLen * sz)
    (hsrc : ∀ j v, cs[j]? = some v → w.cell? (a.add j) = some v) (hfit : o + cs.length ≤ cur.size) (h1 : ∀ v ∈ cs, v.oneCell' = true) :
    (Builtin.copy_ #[dT, sT] ty #[.slice (some ⟨g, o, none⟩) dLen dCap, .slice (some a) sLen sCap]).run P w =
      .ok (goInt (Nat.min sLen dLen)) (w.setRow g (splice cur.toList o cs).toArray) := by
  have hl := run_loadCells_list (P := P) w a cs hsrc
  have hst := run_storeCells_at P g o t cs 0 cur w hg (by simpa using hfit) h1
  have e : cur.toList.take o ++ cs ++ cur.toList.drop (o + cs.length) = splice cur.toList o cs := by simp [splice]
  simp only [Nat.add_zero] at hst
  rw [e] at hst
  cases hq : P.info? elem with
  | none => simp [hq] at hs
  | some i =>
    have hi : i.size = sz := by simpa [hq] using hs
    simp [Builtin.copy_, run_underlying hu, Builtin.lenOf, Builtin.firstCells, sizeOf, typeInfo, hq, hi, ← hn, hl, hst]
theorem zeroCells_one (z : Array Value) : (Builtin.zeroCells z 1).toList = z.toList := by
  unfold Builtin.zeroCells
  rw [Array.toList_map, Nat.one_mul]
  apply List.ext_getElem
  · simp
  · intro i h1 h2
    have hi : i < z.size := by simpa using h2
    simp [Nat.mod_eq_of_lt hi, getElem!_pos z i hi]
/-- The spare element behind a row is cleared: the row stays. -/
theorem run_clear_own (base : Nat) (t e : TypeId) (z : Value) (size : Nat) (ht : P.underlying t = some (.slice e)) (hv : ∀ w, (zeroValue e).run P w = .ok z w) (hz : z.cells.size = size) (h1 : ∀ u ∈ z.cells.toList, u.oneCell' = true)
    (g n cap c : Nat) (xs : List Value) (hown : w.ownsRow base e size (.slice (some ⟨g, 0, none⟩) n cap) n xs) (hroom : n + 1 ≤ cap) :
    ∃ w', (∀ ty, (Builtin.clear_ #[t] ty #[.slice (some ⟨g, n * size, none⟩) 1 c]).run P w = .ok (.tuple #[]) w') ∧ w'.ownsRow base e size (.slice (some ⟨g, 0, none⟩) n cap) n xs ∧ w.grownBy w' (some g) := by
  rcases hown.2 with ⟨h0, _⟩ | ⟨g', cap', cur, hvv, hbg, hg, hnc, hcm, hcs, htake⟩
  · cases h0
  · cases hvv
    have hzl : z.cells.toList.length = size := by simpa using hz
    have hfit : n * size + z.cells.toList.length ≤ cur.size := by
      rw [hzl, hcs, ← Nat.succ_mul]; exact Nat.mul_le_mul_right _ hroom
    have hst := run_storeCells_at P g (n * size) e z.cells.toList 0 cur w hg (by simpa using hfit) h1
    simp only [Nat.add_zero] at hst
    have hxl : xs.length = n * size := hown.1
    refine ⟨w.setRow g (cur.toList.take (n * size) ++ z.cells.toList ++ cur.toList.drop (n * size + z.cells.toList.length)).toArray, ?_, ⟨hxl, .inr ⟨g, cap, _, rfl, hbg, setRow_heap w g cur _ e _ hg, hnc, hcm, ?_, ?_⟩⟩, ⟨rfl, rfl, rfl, by simp, fun k _ hk => setRow_other w g k _ (fun e => hk (by simp [e]))⟩⟩
    · intro ty
      simp only [Builtin.clear_]
      simp [run_underlying ht, hv, zeroCells_one, hst]
    · simp only [List.size_toArray, List.length_append, List.length_take, List.length_drop, Array.length_toList]
      omega
    · rw [List.append_assoc, List.take_append_of_le_length (by rw [List.length_take, Array.length_toList]; omega), List.take_take, Nat.min_self]
      exact htake
/-- A row cut short is a row. -/
theorem own_cut {base : Nat} {e : TypeId} {size : Nat} {g n cap : Nat} {xs : List Value} (hown : w.ownsRow base e size (.slice (some ⟨g, 0, none⟩) n cap) n xs) {k : Nat} (hk : k ≤ n) : w.ownsRow base e size (.slice (some ⟨g, 0, none⟩) k cap) k (xs.take (k * size)) := by
  have hkn : k * size ≤ n * size := Nat.mul_le_mul_right _ hk
  rcases hown.2 with ⟨h0, _⟩ | ⟨g', cap', cur, hvv, hbg, hg, hnc, hcm, hcs, htake⟩
  · cases h0
  · cases hvv
    refine ⟨by rw [List.length_take, hown.1]; omega, .inr ⟨g, cap, cur, rfl, hbg, hg, by omega, hcm, hcs, ?_⟩⟩
    rw [← htake, List.take_take, Nat.min_eq_left hkn]
end
section
variable {P : Program} {w : World} {ops : Array Oper} {o : Oper} {a : Act} {K : Act → World → Prop} {Q : Exit → Act → World → Prop} {E : Prop}
theorem step_append_eq (hg : o.guard = none) (d x : Operand) (dT sT : TypeId) (hop : o.op = Op.call { callee := Callee.builtin Builtin.append, args := #[d, x], argTypes := #[dT, sT] })
    (v u : Value) (hd : a.eval d = v) (hx : a.eval x = u) {v' : Value} {w' : World} (hr : (Builtin.append_ #[dT, sT] o.type #[v, u]).run P w = .ok v' w') (hK : K (a.put o.dst v') w') :
    if Region.wanted o (yielded ops a.tmps) = true then Oper.wp P o a w K Q else E := by
  have hw : Region.wanted o (yielded ops a.tmps) = true := by simp [Region.wanted, hg]
  rw [if_pos hw]
  exact Lib.wp_append_run w d x dT sT hop v u hd hx v' w' hr hK
theorem wp_copy_eq (d x : Operand) (dT sT : TypeId) (hop : o.op = Op.call { callee := Callee.builtin Builtin.copy, args := #[d, x], argTypes := #[dT, sT] })
    (v u : Value) (hd : a.eval d = v) (hx : a.eval x = u) {v' : Value} {w' : World} (hr : (Builtin.copy_ #[dT, sT] o.type #[v, u]).run P w = .ok v' w') (hK : K (a.put o.dst v') w') : o.wp P a w K Q := by
  unfold Oper.wp execOp
  simp only [hop, resolve, invoke, builtin, Sem.run_bind, Sem.run_pure, Result.andThen_ok, List.map_toArray, List.map_cons, List.map_nil, hd, hx, hr]
  exact hK
theorem step_copy_eq (hg : o.guard = none) (d x : Operand) (dT sT : TypeId) (hop : o.op = Op.call { callee := Callee.builtin Builtin.copy, args := #[d, x], argTypes := #[dT, sT] })
    (v u : Value) (hd : a.eval d = v) (hx : a.eval x = u) {v' : Value} {w' : World} (hr : (Builtin.copy_ #[dT, sT] o.type #[v, u]).run P w = .ok v' w') (hK : K (a.put o.dst v') w') :
    if Region.wanted o (yielded ops a.tmps) = true then Oper.wp P o a w K Q else E := by
  have hw : Region.wanted o (yielded ops a.tmps) = true := by simp [Region.wanted, hg]
  rw [if_pos hw]
  exact wp_copy_eq d x dT sT hop v u hd hx hr hK
theorem list_copy_eq {rest : List Oper} (hgd : o.guard = none) (d x : Operand) (dT sT : TypeId) (hop : o.op = Op.call { callee := Callee.builtin Builtin.copy, args := #[d, x], argTypes := #[dT, sT] })
    (v u : Value) (hd : a.eval d = v) (hx : a.eval x = u) {v' : Value} {w' : World} (hr : (Builtin.copy_ #[dT, sT] o.type #[v, u]).run P w = .ok v' w') (h : wpList P ops Q rest (a.put o.dst v') w') : wpList P ops Q (o :: rest) a w :=
  wpList_plain hgd fun _ hK => wp_copy_eq d x dT sT hop v u hd hx hr (hK _ _ h)
end
theorem splice_mid {α : Type} (A B cs : List α) : splice (A ++ B) A.length cs = A ++ cs ++ B.drop cs.length := by
  unfold splice
  rw [List.take_left, ← List.append_assoc, List.drop_append]
  simp
theorem flatR_take (rs : List NtR) (k : Nat) : (flatR rs).take (k * 8) = flatR (rs.take k) := by
  rcases Nat.lt_or_ge k rs.length with h | h
  · have e := congrArg flatR (List.take_append_drop k rs)
    rw [flatR_append] at e
    rw [← e, List.take_left' (by rw [flatR_length, List.length_take]; omega)]
  · rw [List.take_of_length_le (by rw [flatR_length]; omega), List.take_of_length_le h]
theorem flatR_drop (rs : List NtR) (k : Nat) : (flatR rs).drop (k * 8) = flatR (rs.drop k) := by
  rcases Nat.lt_or_ge k rs.length with h | h
  · have e := congrArg flatR (List.take_append_drop k rs)
    rw [flatR_append] at e
    rw [← e, List.drop_left' (by rw [flatR_length, List.length_take]; omega)]
  · rw [List.drop_eq_nil_of_le (by rw [flatR_length]; omega), List.drop_eq_nil_of_le h]; rfl
theorem flatR_one8 (rs : List NtR) : ∀ u ∈ flatR rs, u.oneCell' = true := fun u hu => by
  unfold flatR at hu
  obtain ⟨r, _, hr⟩ := List.mem_flatMap.1 hu
  simp only [NtR.cells, ntC, List.mem_cons, List.not_mem_nil, or_false] at hr
  rcases hr with rfl | rfl | rfl | rfl | rfl | rfl | rfl | rfl <;> simp [Value.oneCell']
end Go.Proofs.Ytdjnblkgeaphmaa
