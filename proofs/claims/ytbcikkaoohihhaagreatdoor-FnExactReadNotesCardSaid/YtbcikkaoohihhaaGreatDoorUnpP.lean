/- What readers of packed bytes tell: the plain law. No condition but those that each theorem names. -/
import Derived.Test.YtbcikkaoohihhaaGreatDoorPackP
namespace Go.Proofs.YtbcikkaoohihhaaGreatDoor
open Go.RowKit Go.Sort

/-- A byte was read: from D and ok to D' and ok'. -/
def BytP (D : List Int) (ok : Bool) (c : Nat) (D' : List Int) (ok' : Bool) : Prop :=
  c ≤ 255 ∧ ((D = (c : Int) :: D' ∧ ok' = ok) ∨ (ok' = false ∧ D' = D ∧ c = 0 ∧ (D = [] ∨ ok = false)))
/-- A number was read. -/
def NumP (D : List Int) (ok : Bool) (n : Int) (D' : List Int) (ok' : Bool) : Prop :=
  -4611686018427387904 ≤ n ∧ n ≤ 4611686018427387904 ∧ (ok' = true → ok = true) ∧ (ok' = false ∨ D'.length < D.length) ∧ D'.length ≤ D.length ∧
  ∀ m L, -1000000000000 ≤ m → m ≤ 1000000000000 → D = pkL (zigN m) ++ L → ok = true → n = m ∧ D' = L ∧ ok' = true
/-- On its way. -/
def NumI (D : List Int) (ok : Bool) (k N : Nat) (E : List Int) (o : Bool) : Prop :=
  N < 128 ^ k ∧ (o = true → ok = true) ∧ E.length ≤ D.length ∧
  ∀ m L, -1000000000000 ≤ m → m ≤ 1000000000000 → D = pkL (zigN m) ++ L → ok = true → ∃ z, zigN m = N + z * 128 ^ k ∧ E = pkL z ++ L ∧ o = true ∧ (k = 0 ∨ 0 < z)
theorem NumI.start (D : List Int) (ok : Bool) : NumI D ok 0 0 D ok := ⟨by simp, id, Nat.le_refl _, fun m L _ _ h h2 => ⟨zigN m, by simp, h, h2, .inl rfl⟩⟩
theorem pkL_ne (z : Nat) (L : List Int) : pkL z ++ L ≠ [] := by
  rw [pkL]; split <;> simp
theorem BytP.len {D : List Int} {ok : Bool} {c : Nat} {D' : List Int} {ok' : Bool} (h : BytP D ok c D' ok') : D'.length ≤ D.length ∧ (ok' = true → ok = true) ∧ (ok' = false ∨ D'.length < D.length) := by
  rcases h.2 with ⟨rfl, rfl⟩ | ⟨rfl, rfl, _, _⟩
  · exact ⟨by simp, id, .inr (by simp)⟩
  · exact ⟨Nat.le_refl _, by simp, .inl rfl⟩
/-- The first byte of a number that lies ahead. -/
theorem BytP.num {E L : List Int} {o : Bool} {c z : Nat} {E' : List Int} {o' : Bool} (h : BytP E o c E' o') (he : E = pkL z ++ L) (ho : o = true) : o' = o ∧ (128 ≤ z → c = z % 128 + 128 ∧ E' = pkL (z / 128) ++ L) ∧ (z < 128 → c = z ∧ E' = L) := by
  rcases h.2 with ⟨h1, h2⟩ | ⟨_, _, _, h4 | h4⟩
  · refine ⟨h2, fun hz => ?_, fun hz => ?_⟩
    · rw [he, pkL_big hz] at h1
      simp only [List.cons_append, List.cons.injEq] at h1
      exact ⟨by omega, h1.2.symm⟩
    · rw [he, pkL_small (by omega)] at h1
      simp only [List.cons_append, List.nil_append, List.cons.injEq] at h1
      exact ⟨by omega, h1.2.symm⟩
  · exact absurd (he.symm.trans h4) (pkL_ne z L)
  · rw [ho] at h4; cases h4
theorem pow_step (k : Nat) : 128 ^ (k + 1) = 128 ^ k * 128 := Nat.pow_succ ..
theorem NumI.step {D : List Int} {ok : Bool} {k N : Nat} {E : List Int} {o : Bool} (h : NumI D ok k N E o) {c : Nat} {E' : List Int} {o' : Bool} (hb : BytP E o c E' o') (hc : 128 ≤ c) : NumI D ok (k + 1) (N + c % 128 * 128 ^ k) E' o' := by
  obtain ⟨h1, h2, h3, h4⟩ := h
  obtain ⟨b1, b2, _⟩ := hb.len
  refine ⟨?_, fun h => h2 (b2 h), Nat.le_trans b1 h3, fun m L m1 m2 e1 e2 => ?_⟩
  · have : c % 128 * 128 ^ k ≤ 127 * 128 ^ k := Nat.mul_le_mul_right _ (by omega)
    rw [pow_step]
    omega
  · obtain ⟨z, z1, z2, z3, z4⟩ := h4 m L m1 m2 e1 e2
    obtain ⟨n1, n2, n3⟩ := hb.num z2 z3
    by_cases hz : 128 ≤ z
    · obtain ⟨q1, q2⟩ := n2 hz
      refine ⟨z / 128, ?_, q2, by rw [n1, z3], .inr (by omega)⟩
      rw [z1, q1, pow_step]
      have e : (z % 128 + 128) % 128 = z % 128 := by omega
      rw [e]
      have e2 := Nat.div_add_mod z 128
      have e3 : z * 128 ^ k = (128 * (z / 128) + z % 128) * 128 ^ k := by rw [e2]
      rw [e3, Nat.add_mul, Nat.add_assoc]
      congr 1
      rw [Nat.add_comm]
      congr 1
      rw [Nat.mul_assoc, Nat.mul_comm 128, Nat.mul_assoc]
    · have := (n3 (by omega)).1
      omega
theorem zig_even {m : Int} {z : Nat} (h : zigN m = z) (hz : z % 2 = 0) : m = (z / 2 : Nat) := by
  unfold zigN at h; split at h <;> omega
theorem zig_odd {m : Int} {z : Nat} (h : zigN m = z) (hz : z % 2 = 1) : m = -((z / 2 : Nat) : Int) - 1 := by
  unfold zigN at h; split at h <;> omega
/-- The number that a sum of sevens tells. -/
def unz (z : Nat) : Int := if z % 2 = 1 then -((z / 2 : Nat) : Int) - 1 else ((z / 2 : Nat) : Int)
theorem unz_zig (m : Int) : unz (zigN m) = m := by
  unfold unz
  split
  · rename_i h; exact (zig_odd rfl h).symm
  · rename_i h; exact (zig_even rfl (by omega)).symm
theorem NumI.done {D : List Int} {ok : Bool} {k N : Nat} {E : List Int} {o : Bool} (h : NumI D ok k N E o) (hk : k ≤ 8) {c : Nat} {E' : List Int} {o' : Bool} (hb : BytP E o c E' o') (hc : c < 128) {o2 : Bool} (ho : o2 = (o' && (decide (0 < c) || decide (k = 0))) ∨ o2 = o') :
    NumP D ok (unz (N + c * 128 ^ k)) E' o2 := by
  obtain ⟨h1, h2, h3, h4⟩ := h
  obtain ⟨b1, b2, b3⟩ := hb.len
  have o3 : o2 = true → o' = true := by
    rcases ho with rfl | rfl
    · intro h; rw [Bool.and_eq_true] at h; exact h.1
    · exact id
  have hp : 128 ^ (k + 1) ≤ 128 ^ 9 := Nat.pow_le_pow_right (by omega) (by omega)
  have e9 : (128 : Nat) ^ 9 = 9223372036854775808 := by decide
  have hN : N + c * 128 ^ k < 9223372036854775808 := by
    have : c * 128 ^ k ≤ 127 * 128 ^ k := Nat.mul_le_mul_right _ (by omega)
    rw [pow_step] at hp
    omega
  refine ⟨by unfold unz; split <;> omega, by unfold unz; split <;> omega, fun h => h2 (b2 (o3 h)), ?_, Nat.le_trans b1 h3, fun m L m1 m2 e1 e2 => ?_⟩
  · rcases b3 with b3 | b3
    · left
      cases ho2 : o2
      · rfl
      · rw [o3 ho2] at b3; cases b3
    · exact .inr (by omega)
  · obtain ⟨z, z1, z2, z3, z4⟩ := h4 m L m1 m2 e1 e2
    obtain ⟨n1, n2, n3⟩ := hb.num z2 z3
    have hz : z < 128 := by
      rcases Nat.lt_or_ge z 128 with g | g
      · exact g
      · have := (n2 g).1; omega
    obtain ⟨q1, q2⟩ := n3 hz
    refine ⟨by rw [q1, ← z1]; exact unz_zig m, q2, ?_⟩
    rcases ho with rfl | rfl
    · rw [n1, z3, Bool.true_and, Bool.or_eq_true]
      rcases z4 with z4 | z4
      · right; simpa using z4
      · left; simp; omega
    · rw [n1, z3]
theorem NumI.out {D : List Int} {ok : Bool} {k N : Nat} {E : List Int} {o : Bool} (h : NumI D ok k N E o) (hk : 6 ≤ k) : NumP D ok 0 E false := by
  obtain ⟨h1, h2, h3, h4⟩ := h
  refine ⟨by omega, by omega, by simp, .inl rfl, h3, fun m L m1 m2 e1 e2 => ?_⟩
  obtain ⟨z, z1, z2, z3, z4⟩ := h4 m L m1 m2 e1 e2
  have hp : 128 ^ 6 ≤ 128 ^ k := Nat.pow_le_pow_right (by omega) (by omega)
  have e6 : (128 : Nat) ^ 6 = 4398046511104 := by decide
  have h0 : 1 * 128 ^ k ≤ z * 128 ^ k := Nat.mul_le_mul_right _ (by omega)
  have hz : zigN m ≤ 2000000000001 := by unfold zigN; split <;> omega
  omega
/-- Numbers were read, one after the other. -/
def SeqP (D : List Int) (ok : Bool) (ns : List Int) (D' : List Int) (ok' : Bool) : Prop :=
  (ok' = true → ok = true) ∧ D'.length ≤ D.length ∧
  ∀ ms L, (∀ m ∈ ms, -1000000000000 ≤ m ∧ m ≤ 1000000000000) → ms.length = ns.length → D = pkA ms ++ L → ok = true → ns = ms ∧ D' = L ∧ ok' = true
theorem SeqP.nil (D : List Int) (ok : Bool) : SeqP D ok [] D ok := ⟨id, Nat.le_refl _, fun ms L _ h1 h2 h3 => by
  obtain rfl := List.length_eq_zero_iff.1 h1
  exact ⟨rfl, by simpa [pkA] using h2, h3⟩⟩
theorem SeqP.snoc {D : List Int} {ok : Bool} {ns : List Int} {E : List Int} {o : Bool} (h : SeqP D ok ns E o) {n : Int} {E' : List Int} {o' : Bool} (hn : NumP E o n E' o') : SeqP D ok (ns ++ [n]) E' o' := by
  obtain ⟨h1, h2, h3⟩ := h
  obtain ⟨_, _, n1, _, n2, n3⟩ := hn
  refine ⟨fun h => h1 (n1 h), Nat.le_trans n2 h2, fun ms L hm hl hD hok => ?_⟩
  rcases List.eq_nil_or_concat ms with rfl | ⟨ms', m, rfl⟩
  · simp at hl
  · rw [List.concat_eq_append] at *
    rw [pkA_snoc, List.append_assoc] at hD
    obtain ⟨e1, e2, e3⟩ := h3 ms' _ (fun m hm' => hm m (List.mem_append_left _ hm')) (by simpa using hl) hD hok
    obtain ⟨q1, q2⟩ := hm m (by simp)
    obtain ⟨e4, e5, e6⟩ := n3 m L q1 q2 e2 e3
    exact ⟨by rw [e1, e4], e5, e6⟩
/-- A text of n bytes was read. -/
def NamP (E : List Int) (o : Bool) (n : Nat) (s : ByteArray) (E' : List Int) (o' : Bool) : Prop :=
  s.size ≤ 255 ∧ E'.length ≤ E.length ∧ (o' = true → o = true) ∧ ∀ t L, t.size = n → E = byI t ++ L → o = true → s = t ∧ E' = L ∧ o' = true
theorem byI_inj {s t : ByteArray} (h : byI s = byI t) : s = t := by
  unfold byI at h
  have hf : ∀ (a b : List UInt8), a.map (fun b => (b.toNat : Int)) = b.map (fun b => (b.toNat : Int)) → a = b := by
    intro a
    induction a with
    | nil => intro b h; cases b with
      | nil => rfl
      | cons y ys => simp at h
    | cons x xs ih => intro b h; cases b with
      | nil => simp at h
      | cons y ys =>
        simp only [List.map_cons, List.cons.injEq] at h
        have hx : x = y := UInt8.toNat_inj.1 (by have := h.1; omega)
        rw [ih ys h.2, hx]
  cases s with | mk a => cases t with | mk b =>
    have := hf _ _ h
    simp only at this
    rw [Array.toList_inj.1 this]
theorem byI_ext (s : ByteArray) (a b : Nat) : byI (s.extract a b) = ((byI s).drop a).take (b - a) := by
  unfold byI
  have e : (s.extract a b).data.toList = (s.data.toList.drop a).take (b - a) := by simp [ByteArray.data_extract, Array.toList_extract, List.extract_eq_take_drop]
  rw [e, List.map_take, List.map_drop]
theorem NamP.of {R : ByteArray} {E : List Int} {o : Bool} {n : Nat} (hE : byI R = E) (hn : n ≤ R.size) (h5 : n ≤ 255) {s : ByteArray} {E' : List Int} (hs : byI s = E.take n) (hE' : E' = E.drop n) : NamP E o n s E' o := by
  have hl : E.length = R.size := by rw [← hE]; exact byI_length R
  refine ⟨?_, by rw [hE', List.length_drop]; omega, id, fun t L ht he ho => ?_⟩
  · have := congrArg List.length hs
    rw [byI_length, List.length_take] at this
    omega
  · have e1 : E.take n = byI t := by rw [he, List.take_left' (by rw [byI_length]; exact ht)]
    have e2 : E.drop n = L := by rw [he, List.drop_left' (by rw [byI_length]; exact ht)]
    exact ⟨byI_inj (hs.trans e1), hE'.trans e2, ho⟩
theorem NamP.short {E : List Int} {o : Bool} {n : Nat} (hn : E.length < n) {s : ByteArray} (hs : s.size ≤ 255) : NamP E o n s E false :=
  ⟨hs, Nat.le_refl _, by simp, fun t L ht he _ => by
    have := congrArg List.length he
    rw [List.length_append, byI_length] at this
    omega⟩
/-- A note's name and kind were read. -/
def HedP (D : List Int) (ok : Bool) (s : ByteArray) (k : Nat) (D' : List Int) (ok' : Bool) : Prop :=
  s.size ≤ 255 ∧ k ≤ 255 ∧ (ok' = true → ok = true) ∧ D'.length ≤ D.length ∧
  ∀ y L, ntOk y = true → D = noteB y ++ L → ok = true → s = y.name ∧ (k : Int) = y.kind ∧ D' = pkA (nuL y) ++ L ∧ ok' = true
theorem BytP.hit {E L : List Int} {o : Bool} {c : Nat} {E' : List Int} {o' : Bool} (h : BytP E o c E' o') {b : Int} (he : E = b :: L) (ho : o = true) : (c : Int) = b ∧ E' = L ∧ o' = true := by
  rcases h.2 with ⟨h1, h2⟩ | ⟨_, _, _, h4 | h4⟩
  · rw [he] at h1
    simp only [List.cons.injEq] at h1
    exact ⟨h1.1.symm, h1.2.symm, h2.trans ho⟩
  · rw [he] at h4; cases h4
  · rw [ho] at h4; cases h4
theorem HedP.of {D D1 D2 D3 : List Int} {ok o1 o2 o3 : Bool} {c k : Nat} {s : ByteArray} (h1 : BytP D ok c D1 o1) (h2 : NamP D1 o1 c s D2 o2) (h3 : BytP D2 o2 k D3 o3) : HedP D ok s k D3 o3 := by
  obtain ⟨a1, a2, _⟩ := h1.len
  obtain ⟨b1, b2, _⟩ := h3.len
  obtain ⟨n1, n2, n3, n4⟩ := h2
  refine ⟨n1, h3.1, fun h => a2 (n3 (b2 h)), by omega, fun y L hy he ho => ?_⟩
  unfold noteB at he
  simp only [List.append_assoc, List.cons_append, List.nil_append] at he
  obtain ⟨e1, e2, e3⟩ := h1.hit he ho
  obtain ⟨e4, e5, e6⟩ := n4 y.name _ (by omega) e2 e3
  obtain ⟨e7, e8, e9⟩ := h3.hit e5 e6
  exact ⟨e4, e7, e8, e9⟩
/-- A note was read. -/
def NotP (D : List Int) (ok : Bool) (x : Nt) (D' : List Int) (ok' : Bool) : Prop :=
  x.name.size ≤ 255 ∧ x.terms.length + D'.length ≤ D.length + 1 ∧ (ok' = true → ok = true) ∧ D'.length ≤ D.length ∧
  ∀ y L, ntOk y = true → D = noteB y ++ L → ok = true → x = y ∧ D' = L ∧ ok' = true
/-- So many notes of a list were read, xs, with Z behind the list. -/
def BokP (S : List Int) (o : Bool) (j : Nat) (xs : List Nt) (D : List Int) (ok : Bool) : Prop :=
  ∀ ys Z, validNt ys = true → S = (ys.map noteB).flatten ++ Z → o = true → j ≤ ys.length → xs = ys.take j ∧ D = ((ys.drop j).map noteB).flatten ++ Z ∧ ok = true
theorem BokP.start (S : List Int) (o : Bool) : BokP S o 0 [] S o := fun ys Z _ h ho _ => ⟨by simp, by simpa using h, ho⟩
theorem BokP.step {S : List Int} {o : Bool} {j : Nat} {xs : List Nt} {D : List Int} {ok : Bool} (h : BokP S o j xs D ok) {x : Nt} {D' : List Int} {ok' : Bool} (hx : NotP D ok x D' ok') : BokP S o (j + 1) (xs ++ [x]) D' ok' := fun ys Z hv e ho hj => by
  obtain ⟨h1, h2, h3⟩ := h ys Z hv e ho (by omega)
  have hl : j < ys.length := hj
  have hd := List.drop_eq_getElem_cons hl
  rw [hd, List.map_cons, List.flatten_cons, List.append_assoc] at h2
  obtain ⟨q1, q2, q3⟩ := hx.2.2.2.2 ys[j] _ ((valid_all hv).2 _ (List.getElem_mem hl)) h2 h3
  exact ⟨by rw [h1, q1, List.take_append_getElem hl], q2, q3⟩
/-- The bytes of a packed text. -/
theorem byI_end {ys : List Nt} (hv : validNt ys = true) : byI (endB (bookB ys)) = 78 :: (ys.length : Int) :: ((ys.map noteB).flatten ++ [ckS (bookB ys) 1 / 256, ckS (bookB ys) 1 % 256]) := by
  obtain ⟨b1, b2, b3⟩ := book_bds hv
  obtain ⟨k1, k2⟩ := ckS_bd (bookB ys) 1 b2 (by omega) (by omega)
  unfold endB
  rw [byI_byS]
  · unfold bookB
    simp
  · intro x hx
    rcases List.mem_append.1 hx with h | h
    · exact b2 x h
    · simp only [List.mem_cons, List.not_mem_nil, or_false] at h
      rcases h with rfl | rfl <;> omega
/-- What a packed text is unpacked to. -/
noncomputable def upS (s : ByteArray) : Option (List Nt) := by
  classical
  exact if h : ∃ xs, validNt xs = true ∧ endB (bookB xs) = s then some h.choose else none
theorem upS_some {s : ByteArray} {xs : List Nt} (hu : ∀ ys, validNt ys = true → endB (bookB ys) = s → xs = ys) (hv : validNt xs = true) (he : endB (bookB xs) = s) : upS s = some xs := by
  unfold upS
  have h : ∃ xs, validNt xs = true ∧ endB (bookB xs) = s := ⟨xs, hv, he⟩
  rw [dif_pos h, hu _ h.choose_spec.1 h.choose_spec.2]
theorem upS_none {s : ByteArray} (hn : ∀ ys, validNt ys = true → endB (bookB ys) = s → False) : upS s = none := by
  unfold upS
  rw [dif_neg]
  rintro ⟨ys, h1, h2⟩
  exact hn ys h1 h2
end Go.Proofs.YtbcikkaoohihhaaGreatDoor
