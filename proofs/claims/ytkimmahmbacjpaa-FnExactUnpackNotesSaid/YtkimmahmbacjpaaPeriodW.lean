/- Head and period of a surd: the program's walk. No condition but those that each theorem names. -/
import Derived.Test.YtkimmahmbacjpaaPerIW
import Derived.Test.YtkimmahmbacjpaaPerSW
namespace Go.Proofs.Ytkimmahmbacjpaa
open Go.RowKit Go.Sort Go.Maps Go.WideMaps

def hdR (R : Option (List Sd × Nat)) : List Int := (R.map headOf).getD []
def cyR (R : Option (List Sd × Nat)) : List Int := (R.map cycOf).getD []
theorem per_ok : ∀ (k : Nat) (L : List Sd) (s : Sd) (R : List Sd × Nat), sdOk s = true → (∀ x ∈ L, sdOk x = true) → per k L s = some R → ∀ x ∈ R.1, sdOk x = true
  | 0, L, s, R, _, hL, h => by
    unfold per at h
    split at h
    · injection h with h; subst h; exact hL
    · cases h
  | k + 1, L, s, R, hs, hL, h => by
    unfold per at h
    split at h
    · injection h with h; subst h; exact hL
    · split at h
      · rename_i hn
        exact per_ok k _ _ R hn (fun x hx => by
          rcases List.mem_append.1 hx with h1 | h1
          · exact hL x h1
          · rw [List.mem_singleton.1 h1]; exact hs) h
      · cases h
theorem own_full {w : World} {base : Nat} {v : Value} {xs : List Int} (h : w.ownsRow base 2 1 v xs.length (xs.map (Value.int .i64))) : ∃ A c, v = .slice A xs.length c ∧ Wr (Value.int .i64) w base A xs ∧ xs.length ≤ c ∧ c ≤ maxLen := by
  obtain ⟨_, A, c, e, g⟩ := Wr.of_own h
  refine ⟨A, c, e, g, ?_⟩
  rcases h.2 with ⟨e2, h0⟩ | ⟨g', cap, cur, e2, _, _, hc, hm, _⟩
  · rw [e] at e2
    injection e2 with _ _ e3
    rw [e3, h0]
    exact ⟨Nat.le_refl _, Nat.zero_le _⟩
  · rw [e] at e2
    injection e2 with _ _ e3
    rw [e3]
    exact ⟨hc, hm⟩
/-- What a call returns that makes a head and a period. -/
def RetPd (w : World) (R : Option (List Sd × Nat)) (x : Value) (e : Ending) (w' : World) : Prop :=
  ∃ A1 c1 A2 c2, e = .returned (.tuple #[.slice A1 (hdR R).length c1, .slice A2 (cyR R).length c2, x]) ∧ Wr (Value.int .i64) w' w.heap.size A1 (hdR R) ∧ Wr (Value.int .i64) w' w.heap.size A2 (cyR R) ∧ ((hdR R).length ≤ c1 ∧ (cyR R).length ≤ c2 ∧ c1 ≤ maxLen ∧ c2 ≤ maxLen) ∧ Below w.heap.size w w'
/-- Two slices of integers of the call's own. -/
structure TwoI (w : World) (base : Nat) (h c : List Int) (v1 v2 : Value) (wr : World) : Prop where
  own1 : wr.ownsRow base 2 1 v1 h.length (h.map (Value.int .i64))
  own2 : wr.ownsRow base 2 1 v2 c.length (c.map (Value.int .i64))
  apart : v1.ownBlock = none ∨ v1.ownBlock ≠ v2.ownBlock
  below : Below w.heap.size w wr
  lt : base ≤ wr.heap.size
theorem TwoI.next {w : World} {base : Nat} {h c : List Int} {v1 v2 : Value} {wr w2 : World} (t : TwoI w base h c v1 v2 wr) (hb : Below wr.heap.size wr w2) : TwoI w base h c v1 v2 w2 :=
  ⟨own_below t.own1 hb, own_below t.own2 hb, t.apart, ext_trans t.below hb, Nat.le_trans t.lt hb.size⟩
theorem TwoI.push1 {w : World} {base : Nat} {h : List Int} {v1 : Value} {wr : World} (t : TwoI w base h [] v1 (.slice none 0 0) wr) (hbase : w.heap.size ≤ base) {a : Int} (v' : Value) (w3 : World) {o : Obj}
    (hown3 : w3.ownsRow base 2 1 v' (h.length + 1) (h.map (Value.int .i64) ++ [.int .i64 a])) (hg : (wr.alloc o).grownBy w3 v1.ownBlock) : TwoI w base (h ++ [a]) [] v' (.slice none 0 0) w3 := by
  refine ⟨by simpa using hown3, own_nil, ?_, below_grown (ext_alloc t.below o) (t.own1.alloc o) hbase hg, ?_⟩
  · rcases Option.eq_none_or_eq_some v'.ownBlock with e | ⟨g, e⟩
    · exact .inl e
    · right
      rw [e]
      intro h
      cases h
  · have := hg.size
    have := t.lt
    simp at *
    omega
theorem TwoI.push2 {w : World} {base : Nat} {h c : List Int} {v1 v2 : Value} {wr : World} (t : TwoI w base h c v1 v2 wr) (hbase : w.heap.size ≤ base) {a : Int} (v' : Value) (w3 : World) {o : Obj}
    (hown3 : w3.ownsRow base 2 1 v' (c.length + 1) (c.map (Value.int .i64) ++ [.int .i64 a])) (hg : (wr.alloc o).grownBy w3 v2.ownBlock) (hat : v'.ownBlock = v2.ownBlock ∨ v'.ownBlock = some (wr.heap.size + 1)) : TwoI w base h (c ++ [a]) v1 v' w3 := by
  refine ⟨(t.own1.alloc o).kept hg t.apart, by simpa using hown3, ?_, below_grown (ext_alloc t.below o) (t.own2.alloc o) hbase hg, ?_⟩
  · rcases t.apart with e | e
    · exact .inl e
    · right
      rcases hat with h | h
      · rw [h]; exact e
      · rw [h]
        intro e'
        have := (t.own1.lt _ e').2
        omega
  · have := hg.size
    have := t.lt
    simp at *
    omega
theorem take_map {L : List Sd} {k : Nat} {s : Sd} (h : L[k]? = some s) : (L.take (k + 1)).map flS = (L.take k).map flS ++ [flS s] := by
  rw [List.take_add_one, h]; simp
theorem dropk_map {L : List Sd} {k i : Nat} {s : Sd} (h : L[k]? = some s) (hi : i ≤ k) : ((L.take (k + 1)).drop i).map flS = ((L.take k).drop i).map flS ++ [flS s] := by
  have hk : k < L.length := (List.getElem?_eq_some_iff.1 h).1
  rw [List.take_add_one, h, List.drop_append_of_le_length (by rw [List.length_take]; omega)]
  simp
set_option maxRecDepth 100000 in
set_option maxHeartbeats 4000000 in
theorem periodOf_any (p d q : Int) (w : World) (h : surdB p d q = true) :
    Calls Try.prog 103 #[surdV p d q] w (RetPd w (perOf (p, d, q)) (.bool (perOf (p, d, q)).isSome)) := by
  obtain ⟨tj, hj, hy0, hy1, hy2⟩ := info_parts info64
  have HJ := Lib.hid hj
  clear hj
  have HSO := Lib.hid (fun W : World => surdsOf_any p d q W h)
  have HOKA : Hid (∀ L i, perOf (p, d, q) = some (L, i) → (∀ x ∈ L, sdOk x = true) ∧ i < L.length ∧ L.length ≤ 400) := fun L i hR =>
    ⟨per_ok 400 [] (p, d, q) (L, i) h (by simp) hR, by have := per_facts 400 [] (p, d, q) (L, i) hR; simpa using this⟩
  clear h
  generalize perOf (p, d, q) = R at *
  unfold surdV at *
  go_enter Try.func103, Try.ntmps103
  go_wp2_with fail
  refine (HSO.out _).mono ?_
  rintro e w1 ⟨A, c, rfl, hw1, hb1⟩
  rcases Option.eq_none_or_eq_some R with hR | ⟨⟨L, i⟩, hR⟩
  · subst hR
    go_wp2
    go_ret3
    exact ⟨none, 0, none, 0, rfl, fun h => absurd h (by simp [hdR]), fun h => absurd h (by simp [cyR]), ⟨by simp [hdR], by simp [cyR], Nat.zero_le _, Nat.zero_le _⟩, ext_trans (ext1 _ _) hb1⟩
  · subst hR
    obtain ⟨hok, hiL, hL4⟩ := HOKA.out L i rfl
    have HOK := Lib.hid hok
    have HW := Lib.hid hw1.rd
    have HB := Lib.hid (ext_trans (ext1 w (.cells #[.int .i64 p, .int .i64 d, .int .i64 q] 34)) hb1)
    clear HOKA hok hw1
    simp only [Option.getD_some, Option.isSome_some] at HW ⊢
    go_wp2_with fail
    go_loopw [22, 8, 9] (fun t v1 v2 wr => ∃ (k : Nat), k ≤ L.length ∧ t = .int .i64 k ∧ (k ≤ i → v2 = .slice none 0 0) ∧ Hid (TwoI w1 w1.heap.size ((L.take (min k i)).map flS) (((L.take k).drop i).map flS) v1 v2 wr)) (fun t _ _ _ => L.length - (intOf t).toNat)
    case atStart => exact ⟨0, by omega, rfl, fun _ => rfl, by simpa using ⟨own_nil, own_nil, .inl rfl, Below.refl _ _, Nat.le_refl _⟩⟩
    case round =>
      obtain ⟨k, hk, rfl, hv2, HV⟩ := hrel
      have HV2 := Lib.hid hv2
      clear hv2
      by_cases hlt : k < L.length
      · have hlen := sdL_length L
        obtain ⟨b, off, rfl, hb, hc⟩ := HW.out (by omega)
        obtain ⟨⟨y1, y2, y3⟩, hyk⟩ : ∃ x, L[k]? = some x := ⟨_, List.getElem?_eq_getElem hlt⟩
        obtain ⟨g0, g1, g2⟩ := sdL_get hyk
        have hbb := HV.out.below
        have c0 := (hbb.cell (p := ⟨b, off + k * 3, none⟩) hb).trans (hc _ _ g0)
        have c1 := (hbb.cell (p := ⟨b, off + (k * 3 + 1), none⟩) hb).trans (hc _ _ g1)
        have c2 := (hbb.cell (p := ⟨b, off + (k * 3 + 2), none⟩) hb).trans (hc _ _ g2)
        rw [← Nat.add_assoc] at c1 c2
        have HFl := Lib.hid (fun W : World => floorSurd_any y1 y2 y3 W (HOK.out _ (List.mem_of_getElem? hyk)))
        have i0 : (0 : Int) ≤ (k : Int) := by omega
        have i1 : (k : Int) < (L.length : Int) := by omega
        clear hc g0 g1 g2 hlen hbb
        have hzz : wr.heap.size < (wr.alloc (.cells #[.int .i64 y1, .int .i64 y2, .int .i64 y3] 34)).heap.size := by simp
        by_cases hki : k < i
        · have HT : Hid ((L.take (min (k + 1) i)).map flS = (L.take (min k i)).map flS ++ [flS (y1, y2, y3)] ∧ ((L.take (k + 1)).drop i).map flS = [] ∧ ((L.take k).drop i).map flS = []) := by
            refine ⟨by rw [show min (k + 1) i = k + 1 by omega, show min k i = k by omega]; exact take_map hyk, ?_, ?_⟩
            · rw [List.drop_eq_nil_of_le (by rw [List.length_take]; omega)]; rfl
            · rw [List.drop_eq_nil_of_le (by rw [List.length_take]; omega)]; rfl
          have e2 := HV2.out (by omega)
          subst e2
          have hll : ((L.take (min k i)).map flS).length ≤ 400 := by rw [List.length_map, List.length_take]; omega
          clear hyk HV2
          generalize flS (y1, y2, y3) = a at *
          rw [HT.out.2.2] at HV
          generalize (L.take (min k i)).map flS = X at *
          go_wp2_with fail
          refine (HFl.out _).mono ?_
          rintro e w3 ⟨rfl, hb3⟩
          have V3 := Lib.hid (HV.out.next (ext_trans (ext1 wr (.cells #[.int .i64 y1, .int .i64 y2, .int .i64 y3] 34)) hb3))
          have hown := V3.out.own1
          have hbz := V3.out.lt
          go_wp2_with (at_builtin; refine wpList_append_own_at _ rfl _ _ 32 rfl w1.heap.size 2 tj (.int .i64 0) 1 8 Try.underlying32 HJ.out hy0 hy1 hy2 rfl (by decide) _ _ _ rfl (hown.alloc _) ⟨w3.heap.size, 0, none⟩ 1 1 [.int .i64 a] rfl rfl (cell_one_new _ _ _) (by simp [Value.oneCell']) (by unfold maxLen; omega) (by omega) (by simp; omega) ?_)
          intro v' w4 hown3 hgrow _ hat
          have V4 := Lib.hid (V3.out.push1 (Nat.le_refl _) _ _ hown3 hgrow)
          clear hown3 hgrow hat hown V3
          go_wp2
          go_roundw
          case rel => exact ⟨k + 1, by omega, by go_num, fun _ => rfl, by rw [HT.out.1, HT.out.2.1]; exact V4.out⟩
          case measure => simp [intOf]; omega
        · have HT : Hid ((L.take (min (k + 1) i)).map flS = (L.take (min k i)).map flS ∧ ((L.take (k + 1)).drop i).map flS = ((L.take k).drop i).map flS ++ [flS (y1, y2, y3)]) := by
            refine ⟨by rw [show min (k + 1) i = i by omega, show min k i = i by omega], dropk_map hyk (by omega)⟩
          have hll : (((L.take k).drop i).map flS).length ≤ 400 := by rw [List.length_map, List.length_drop, List.length_take]; omega
          clear hyk HV2
          generalize flS (y1, y2, y3) = a at *
          generalize (L.take (min k i)).map flS = X at *
          generalize ((L.take k).drop i).map flS = Y at *
          go_wp2_with fail
          refine (HFl.out _).mono ?_
          rintro e w3 ⟨rfl, hb3⟩
          have V3 := Lib.hid (HV.out.next (ext_trans (ext1 wr (.cells #[.int .i64 y1, .int .i64 y2, .int .i64 y3] 34)) hb3))
          have hown := V3.out.own2
          have hbz := V3.out.lt
          go_wp2_with (at_builtin; refine wpList_append_own_at _ rfl _ _ 32 rfl w1.heap.size 2 tj (.int .i64 0) 1 8 Try.underlying32 HJ.out hy0 hy1 hy2 rfl (by decide) _ _ _ rfl (hown.alloc _) ⟨w3.heap.size, 0, none⟩ 1 1 [.int .i64 a] rfl rfl (cell_one_new _ _ _) (by simp [Value.oneCell']) (by unfold maxLen; omega) (by omega) (by simp; omega) ?_)
          intro v' w4 hown3 hgrow _ hat
          have V4 := Lib.hid (V3.out.push2 (Nat.le_refl _) _ _ hown3 hgrow hat)
          clear hown3 hgrow hat hown V3
          go_wp2
          go_roundw
          case rel => exact ⟨k + 1, by omega, by go_num, fun h => absurd h (by omega), by rw [HT.out.1, HT.out.2]; exact V4.out⟩
          case measure => simp [intOf]; omega
      · obtain rfl : k = L.length := by omega
        have HE : Hid ((L.take (min L.length i)).map flS = hdR (some (L, i)) ∧ ((L.take L.length).drop i).map flS = cyR (some (L, i))) := by
          refine ⟨?_, ?_⟩
          · rw [show min L.length i = i by omega]; rfl
          · rw [List.take_of_length_le (Nat.le_refl _)]; rfl
        rw [HE.out.1, HE.out.2] at HV
        obtain ⟨A1, c1, rfl, g1, p1, p2⟩ := own_full HV.out.own1
        obtain ⟨A2, c2, rfl, g2, p3, p4⟩ := own_full HV.out.own2
        have hs := HB.out.size
        have G1 := Lib.hid (g1.more hs)
        have G2 := Lib.hid (g2.more hs)
        clear g1 g2 HV2
        go_wp2
        go_ret3
        exact ⟨A1, c1, A2, c2, rfl, G1.out, G2.out, ⟨p1, p3, p2, p4⟩, ext_trans HB.out HV.out.below⟩
end Go.Proofs.Ytkimmahmbacjpaa
