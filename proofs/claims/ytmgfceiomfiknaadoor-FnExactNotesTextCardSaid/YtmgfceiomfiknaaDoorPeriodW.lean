/- Head and period of a surd: the program's walk. No condition but those that each theorem names. -/
import Derived.Test.YtmgfceiomfiknaaDoorPerIW
import Derived.Test.YtmgfceiomfiknaaDoorPerSW
namespace Go.Proofs.YtmgfceiomfiknaaDoor
open Go.RowKit Go.Sort Go.Maps Go.WideMaps

def hdR (R : Option (List Sd × Nat)) : List Int := (R.map headOf).getD []
def cyR (R : Option (List Sd × Nat)) : List Int := (R.map cycOf).getD []
theorem per_ok : ∀ (k : Nat) (L : List Sd) (s : Sd) (R : List Sd × Nat), sdOk s = true → (∀ x ∈ L, sdOk x = true) → per k L s = some R → ∀ x ∈ R.1, sdOk x = true
  | 0, L, s, R, _, hL, h => by
    unfold per at h
    split at h
    · injection h with h; subst h; exact hL
    · cases h
  | k + 1, L, s, R, hs, hL, h => by
    unfold per at h
    split at h
    · injection h with h; subst h; exact hL
    · split at h
      · rename_i hn
        exact per_ok k _ _ R hn (fun x hx => by
          rcases List.mem_append.1 hx with h1 | h1
          · exact hL x h1
          · rw [List.mem_singleton.1 h1]; exact hs) h
      · cases h
theorem own_full {w : World} {base : Nat} {v : Value} {xs : List Int} (h : w.ownsRow base 2 1 v xs.length (xs.map (Value.int .i64))) : ∃ A c, v = .slice A xs.length c ∧ Wr (Value.int .i64) w base A xs ∧ xs.length ≤ c ∧ c ≤ maxLen := by
  obtain ⟨_, A, c, e, g⟩ := Wr.of_own h
  refine ⟨A, c, e, g, ?_⟩
  rcases h.2 with ⟨e2, h0⟩ | ⟨g', cap, cur, e2, _, _, hc, hm, _⟩
  · rw [e] at e2
    injection e2 with _ _ e3
    rw [e3, h0]
    exact ⟨Nat.le_refl _, Nat.zero_le _⟩
  · rw [e] at e2
    injection e2 with _ _ e3
    rw [e3]
    exact ⟨hc, hm⟩
/-- What a call returns that makes a head and a period. -/
def RetPd (w : World) (R : Option (List Sd × Nat)) (x : Value) (e : Ending) (w' : World) : Prop :=
  ∃ A1 c1 A2 c2, e = .returned (.tuple #[.slice A1 (hdR R).length c1, .slice A2 (cyR R).length c2, x]) ∧ Wr (Value.int .i64) w' w.heap.size A1 (hdR R) ∧ Wr (Value.int .i64) w' w.heap.size A2 (cyR R) ∧ ((hdR R).length ≤ c1 ∧ (cyR R).length ≤ c2 ∧ c1 ≤ maxLen ∧ c2 ≤ maxLen) ∧ Below w.heap.size w w'
/-- Two slices of integers of the call's own. -/
structure TwoI (w : World) (base : Nat) (h c : List Int) (v1 v2 : Value) (wr : World) : Prop where
  own1 : wr.ownsRow base 2 1 v1 h.length (h.map (Value.int .i64))
  own2 : wr.ownsRow base 2 1 v2 c.length (c.map (Value.int .i64))
  apart : v1.ownBlock = none ∨ v1.ownBlock ≠ v2.ownBlock
  below : Below w.heap.size w wr
  lt : base ≤ wr.heap.size
theorem TwoI.next {w : World} {base : Nat} {h c : List Int} {v1 v2 : Value} {wr w2 : World} (t : TwoI w base h c v1 v2 wr) (hb : Below wr.heap.size wr w2) : TwoI w base h c v1 v2 w2 :=
  ⟨own_below t.own1 hb, own_below t.own2 hb, t.apart, ext_trans t.below hb, Nat.le_trans t.lt hb.size⟩
theorem TwoI.push1 {w : World} {base : Nat} {h : List Int} {v1 : Value} {wr : World} (t : TwoI w base h [] v1 (.slice none 0 0) wr) (hbase : w.heap.size ≤ base) {a : Int} (v' : Value) (w3 : World) {o : Obj}
    (hown3 : w3.ownsRow base 2 1 v' (h.length + 1) (h.map (Value.int .i64) ++ [.int .i64 a])) (hg : (wr.alloc o).grownBy w3 v1.ownBlock) : TwoI w base (h ++ [a]) [] v' (.slice none 0 0) w3 := by
  refine ⟨by simpa using hown3, own_nil, ?_, below_grown (ext_alloc t.below o) (t.own1.alloc o) hbase hg, ?_⟩
  · rcases Option.eq_none_or_eq_some v'.ownBlock with e | ⟨g, e⟩
    · exact .inl e
    · right
      rw [e]
      intro h
      cases h
  · have := hg.size
    have := t.lt
    simp at *
    omega
theorem TwoI.push2 {w : World} {base : Nat} {h c : List Int} {v1 v2 : Value} {wr : World} (t : TwoI w base h c v1 v2 wr) (hbase : w.heap.size ≤ base) {a : Int} (v' : Value) (w3 : World) {o : Obj}
    (hown3 : w3.ownsRow base 2 1 v' (c.length + 1) (c.map (Value.int .i64) ++ [.int .i64 a])) (hg : (wr.alloc o).grownBy w3 v2.ownBlock) (hat : v'.ownBlock = v2.ownBlock ∨ v'.ownBlock = some (wr.heap.size + 1)) : TwoI w base h (c ++ [a]) v1 v' w3 := by
  refine ⟨(t.own1.alloc o).kept hg t.apart, by simpa using hown3, ?_, below_grown (ext_alloc t.below o) (t.own2.alloc o) hbase hg, ?_⟩
  · rcases t.apart with e | e
    · exact .inl e
    · right
      rcases hat with h | h
      · rw [h]; exact e
      · rw [h]
        intro e'
        have := (t.own1.lt _ e').2
        omega
  · have := hg.size
    have := t.lt
    simp at *
    omega
theorem take_map {L : List Sd} {k : Nat} {s : Sd} (h : L[k]? = some s) : (L.take (k + 1)).map flS = (L.take k).map flS ++ [flS s] := by
  rw [List.take_add_one, h]; simp
theorem dropk_map {L : List Sd} {k i : Nat} {s : Sd} (h : L[k]? = some s) (hi : i ≤ k) : ((L.take (k + 1)).drop i).map flS = ((L.take k).drop i).map flS ++ [flS s] := by
  have hk : k < L.length := (List.getElem?_eq_some_iff.1 h).1
  rw [List.take_add_one, h, List.drop_append_of_le_length (by rw [List.length_take]; omega)]
  simp
end Go.Proofs.YtmgfceiomfiknaaDoor
