/- XUnpP XUnpQ XUnpN in one text. No condition but those that each theorem names. -/
import Derived.Test.YtkimmahmbacjpaaPackP
import Derived.Test.YtkimmahmbacjpaaNlB
import Derived.Test.YtkimmahmbacjpaaBoxW
import Derived.Test.YtkimmahmbacjpaaSrcW
import Derived.Deep.Onto
/- What readers of packed bytes tell: the plain law. No condition but those that each theorem names. -/
namespace Go.Proofs.Ytkimmahmbacjpaa
open Go.RowKit Go.Sort

/-- A byte was read: from D and ok to D' and ok'. -/
def BytP (D : List Int) (ok : Bool) (c : Nat) (D' : List Int) (ok' : Bool) : Prop :=
  c ≤ 255 ∧ ((D = (c : Int) :: D' ∧ ok' = ok) ∨ (ok' = false ∧ D' = D ∧ c = 0 ∧ (D = [] ∨ ok = false)))
/-- A number was read. -/
def NumP (D : List Int) (ok : Bool) (n : Int) (D' : List Int) (ok' : Bool) : Prop :=
  -4611686018427387904 ≤ n ∧ n ≤ 4611686018427387904 ∧ (ok' = true → ok = true) ∧ (ok' = false ∨ D'.length < D.length) ∧ D'.length ≤ D.length ∧
  ∀ m L, -1000000000000 ≤ m → m ≤ 1000000000000 → D = pkL (zigN m) ++ L → ok = true → n = m ∧ D' = L ∧ ok' = true
/-- On its way. -/
def NumI (D : List Int) (ok : Bool) (k N : Nat) (E : List Int) (o : Bool) : Prop :=
  N < 128 ^ k ∧ (o = true → ok = true) ∧ E.length ≤ D.length ∧
  ∀ m L, -1000000000000 ≤ m → m ≤ 1000000000000 → D = pkL (zigN m) ++ L → ok = true → ∃ z, zigN m = N + z * 128 ^ k ∧ E = pkL z ++ L ∧ o = true ∧ (k = 0 ∨ 0 < z)
theorem NumI.start (D : List Int) (ok : Bool) : NumI D ok 0 0 D ok := ⟨by simp, id, Nat.le_refl _, fun m L _ _ h h2 => ⟨zigN m, by simp, h, h2, .inl rfl⟩⟩
theorem pkL_ne (z : Nat) (L : List Int) : pkL z ++ L ≠ [] := by
  rw [pkL]; split <;> simp
theorem BytP.len {D : List Int} {ok : Bool} {c : Nat} {D' : List Int} {ok' : Bool} (h : BytP D ok c D' ok') : D'.length ≤ D.length ∧ (ok' = true → ok = true) ∧ (ok' = false ∨ D'.length < D.length) := by
  rcases h.2 with ⟨rfl, rfl⟩ | ⟨rfl, rfl, _, _⟩
  · exact ⟨by simp, id, .inr (by simp)⟩
  · exact ⟨Nat.le_refl _, by simp, .inl rfl⟩
/-- The first byte of a number that lies ahead. -/
theorem BytP.num {E L : List Int} {o : Bool} {c z : Nat} {E' : List Int} {o' : Bool} (h : BytP E o c E' o') (he : E = pkL z ++ L) (ho : o = true) : o' = o ∧ (128 ≤ z → c = z % 128 + 128 ∧ E' = pkL (z / 128) ++ L) ∧ (z < 128 → c = z ∧ E' = L) := by
  rcases h.2 with ⟨h1, h2⟩ | ⟨_, _, _, h4 | h4⟩
  · refine ⟨h2, fun hz => ?_, fun hz => ?_⟩
    · rw [he, pkL_big hz] at h1
      simp only [List.cons_append, List.cons.injEq] at h1
      exact ⟨by omega, h1.2.symm⟩
    · rw [he, pkL_small (by omega)] at h1
      simp only [List.cons_append, List.nil_append, List.cons.injEq] at h1
      exact ⟨by omega, h1.2.symm⟩
  · exact absurd (he.symm.trans h4) (pkL_ne z L)
  · rw [ho] at h4; cases h4
theorem pow_step (k : Nat) : 128 ^ (k + 1) = 128 ^ k * 128 := Nat.pow_succ ..
theorem NumI.step {D : List Int} {ok : Bool} {k N : Nat} {E : List Int} {o : Bool} (h : NumI D ok k N E o) {c : Nat} {E' : List Int} {o' : Bool} (hb : BytP E o c E' o') (hc : 128 ≤ c) : NumI D ok (k + 1) (N + c % 128 * 128 ^ k) E' o' := by
  obtain ⟨h1, h2, h3, h4⟩ := h
  obtain ⟨b1, b2, _⟩ := hb.len
  refine ⟨?_, fun h => h2 (b2 h), Nat.le_trans b1 h3, fun m L m1 m2 e1 e2 => ?_⟩
  · have : c % 128 * 128 ^ k ≤ 127 * 128 ^ k := Nat.mul_le_mul_right _ (by omega)
    rw [pow_step]
    omega
  · obtain ⟨z, z1, z2, z3, z4⟩ := h4 m L m1 m2 e1 e2
    obtain ⟨n1, n2, n3⟩ := hb.num z2 z3
    by_cases hz : 128 ≤ z
    · obtain ⟨q1, q2⟩ := n2 hz
      refine ⟨z / 128, ?_, q2, by rw [n1, z3], .inr (by omega)⟩
      rw [z1, q1, pow_step]
      have e : (z % 128 + 128) % 128 = z % 128 := by omega
      rw [e]
      have e2 := Nat.div_add_mod z 128
      have e3 : z * 128 ^ k = (128 * (z / 128) + z % 128) * 128 ^ k := by rw [e2]
      rw [e3, Nat.add_mul, Nat.add_assoc]
      congr 1
      rw [Nat.add_comm]
      congr 1
      rw [Nat.mul_assoc, Nat.mul_comm 128, Nat.mul_assoc]
    · have := (n3 (by omega)).1
      omega
theorem zig_even {m : Int} {z : Nat} (h : zigN m = z) (hz : z % 2 = 0) : m = (z / 2 : Nat) := by
  unfold zigN at h; split at h <;> omega
theorem zig_odd {m : Int} {z : Nat} (h : zigN m = z) (hz : z % 2 = 1) : m = -((z / 2 : Nat) : Int) - 1 := by
  unfold zigN at h; split at h <;> omega
/-- The number that a sum of sevens tells. -/
def unz (z : Nat) : Int := if z % 2 = 1 then -((z / 2 : Nat) : Int) - 1 else ((z / 2 : Nat) : Int)
theorem unz_zig (m : Int) : unz (zigN m) = m := by
  unfold unz
  split
  · rename_i h; exact (zig_odd rfl h).symm
  · rename_i h; exact (zig_even rfl (by omega)).symm
theorem NumI.done {D : List Int} {ok : Bool} {k N : Nat} {E : List Int} {o : Bool} (h : NumI D ok k N E o) (hk : k ≤ 8) {c : Nat} {E' : List Int} {o' : Bool} (hb : BytP E o c E' o') (hc : c < 128) {o2 : Bool} (ho : o2 = (o' && (decide (0 < c) || decide (k = 0))) ∨ o2 = o') :
    NumP D ok (unz (N + c * 128 ^ k)) E' o2 := by
  obtain ⟨h1, h2, h3, h4⟩ := h
  obtain ⟨b1, b2, b3⟩ := hb.len
  have o3 : o2 = true → o' = true := by
    rcases ho with rfl | rfl
    · intro h; rw [Bool.and_eq_true] at h; exact h.1
    · exact id
  have hp : 128 ^ (k + 1) ≤ 128 ^ 9 := Nat.pow_le_pow_right (by omega) (by omega)
  have e9 : (128 : Nat) ^ 9 = 9223372036854775808 := by decide
  have hN : N + c * 128 ^ k < 9223372036854775808 := by
    have : c * 128 ^ k ≤ 127 * 128 ^ k := Nat.mul_le_mul_right _ (by omega)
    rw [pow_step] at hp
    omega
  refine ⟨by unfold unz; split <;> omega, by unfold unz; split <;> omega, fun h => h2 (b2 (o3 h)), ?_, Nat.le_trans b1 h3, fun m L m1 m2 e1 e2 => ?_⟩
  · rcases b3 with b3 | b3
    · left
      cases ho2 : o2
      · rfl
      · rw [o3 ho2] at b3; cases b3
    · exact .inr (by omega)
  · obtain ⟨z, z1, z2, z3, z4⟩ := h4 m L m1 m2 e1 e2
    obtain ⟨n1, n2, n3⟩ := hb.num z2 z3
    have hz : z < 128 := by
      rcases Nat.lt_or_ge z 128 with g | g
      · exact g
      · have := (n2 g).1; omega
    obtain ⟨q1, q2⟩ := n3 hz
    refine ⟨by rw [q1, ← z1]; exact unz_zig m, q2, ?_⟩
    rcases ho with rfl | rfl
    · rw [n1, z3, Bool.true_and, Bool.or_eq_true]
      rcases z4 with z4 | z4
      · right; simpa using z4
      · left; simp; omega
    · rw [n1, z3]
theorem NumI.out {D : List Int} {ok : Bool} {k N : Nat} {E : List Int} {o : Bool} (h : NumI D ok k N E o) (hk : 6 ≤ k) : NumP D ok 0 E false := by
  obtain ⟨h1, h2, h3, h4⟩ := h
  refine ⟨by omega, by omega, by simp, .inl rfl, h3, fun m L m1 m2 e1 e2 => ?_⟩
  obtain ⟨z, z1, z2, z3, z4⟩ := h4 m L m1 m2 e1 e2
  have hp : 128 ^ 6 ≤ 128 ^ k := Nat.pow_le_pow_right (by omega) (by omega)
  have e6 : (128 : Nat) ^ 6 = 4398046511104 := by decide
  have h0 : 1 * 128 ^ k ≤ z * 128 ^ k := Nat.mul_le_mul_right _ (by omega)
  have hz : zigN m ≤ 2000000000001 := by unfold zigN; split <;> omega
  omega
/-- Numbers were read, one after the other. -/
def SeqP (D : List Int) (ok : Bool) (ns : List Int) (D' : List Int) (ok' : Bool) : Prop :=
  (ok' = true → ok = true) ∧ D'.length ≤ D.length ∧
  ∀ ms L, (∀ m ∈ ms, -1000000000000 ≤ m ∧ m ≤ 1000000000000) → ms.length = ns.length → D = pkA ms ++ L → ok = true → ns = ms ∧ D' = L ∧ ok' = true
theorem SeqP.nil (D : List Int) (ok : Bool) : SeqP D ok [] D ok := ⟨id, Nat.le_refl _, fun ms L _ h1 h2 h3 => by
  obtain rfl := List.length_eq_zero_iff.1 h1
  exact ⟨rfl, by simpa [pkA] using h2, h3⟩⟩
theorem SeqP.snoc {D : List Int} {ok : Bool} {ns : List Int} {E : List Int} {o : Bool} (h : SeqP D ok ns E o) {n : Int} {E' : List Int} {o' : Bool} (hn : NumP E o n E' o') : SeqP D ok (ns ++ [n]) E' o' := by
  obtain ⟨h1, h2, h3⟩ := h
  obtain ⟨_, _, n1, _, n2, n3⟩ := hn
  refine ⟨fun h => h1 (n1 h), Nat.le_trans n2 h2, fun ms L hm hl hD hok => ?_⟩
  rcases List.eq_nil_or_concat ms with rfl | ⟨ms', m, rfl⟩
  · simp at hl
  · rw [List.concat_eq_append] at *
    rw [pkA_snoc, List.append_assoc] at hD
    obtain ⟨e1, e2, e3⟩ := h3 ms' _ (fun m hm' => hm m (List.mem_append_left _ hm')) (by simpa using hl) hD hok
    obtain ⟨q1, q2⟩ := hm m (by simp)
    obtain ⟨e4, e5, e6⟩ := n3 m L q1 q2 e2 e3
    exact ⟨by rw [e1, e4], e5, e6⟩
/-- A text of n bytes was read. -/
def NamP (E : List Int) (o : Bool) (n : Nat) (s : ByteArray) (E' : List Int) (o' : Bool) : Prop :=
  s.size ≤ 255 ∧ E'.length ≤ E.length ∧ (o' = true → o = true) ∧ ∀ t L, t.size = n → E = byI t ++ L → o = true → s = t ∧ E' = L ∧ o' = true
theorem byI_inj {s t : ByteArray} (h : byI s = byI t) : s = t := by
  unfold byI at h
  have hf : ∀ (a b : List UInt8), a.map (fun b => (b.toNat : Int)) = b.map (fun b => (b.toNat : Int)) → a = b := by
    intro a
    induction a with
    | nil => intro b h; cases b with
      | nil => rfl
      | cons y ys => simp at h
    | cons x xs ih => intro b h; cases b with
      | nil => simp at h
      | cons y ys =>
        simp only [List.map_cons, List.cons.injEq] at h
        have hx : x = y := UInt8.toNat_inj.1 (by have := h.1; omega)
        rw [ih ys h.2, hx]
  cases s with | mk a => cases t with | mk b =>
    have := hf _ _ h
    simp only at this
    rw [Array.toList_inj.1 this]
theorem byI_ext (s : ByteArray) (a b : Nat) : byI (s.extract a b) = ((byI s).drop a).take (b - a) := by
  unfold byI
  have e : (s.extract a b).data.toList = (s.data.toList.drop a).take (b - a) := by simp [ByteArray.data_extract, Array.toList_extract, List.extract_eq_take_drop]
  rw [e, List.map_take, List.map_drop]
theorem NamP.of {R : ByteArray} {E : List Int} {o : Bool} {n : Nat} (hE : byI R = E) (hn : n ≤ R.size) (h5 : n ≤ 255) {s : ByteArray} {E' : List Int} (hs : byI s = E.take n) (hE' : E' = E.drop n) : NamP E o n s E' o := by
  have hl : E.length = R.size := by rw [← hE]; exact byI_length R
  refine ⟨?_, by rw [hE', List.length_drop]; omega, id, fun t L ht he ho => ?_⟩
  · have := congrArg List.length hs
    rw [byI_length, List.length_take] at this
    omega
  · have e1 : E.take n = byI t := by rw [he, List.take_left' (by rw [byI_length]; exact ht)]
    have e2 : E.drop n = L := by rw [he, List.drop_left' (by rw [byI_length]; exact ht)]
    exact ⟨byI_inj (hs.trans e1), hE'.trans e2, ho⟩
theorem NamP.short {E : List Int} {o : Bool} {n : Nat} (hn : E.length < n) {s : ByteArray} (hs : s.size ≤ 255) : NamP E o n s E false :=
  ⟨hs, Nat.le_refl _, by simp, fun t L ht he _ => by
    have := congrArg List.length he
    rw [List.length_append, byI_length] at this
    omega⟩
/-- A note's name and kind were read. -/
def HedP (D : List Int) (ok : Bool) (s : ByteArray) (k : Nat) (D' : List Int) (ok' : Bool) : Prop :=
  s.size ≤ 255 ∧ k ≤ 255 ∧ (ok' = true → ok = true) ∧ D'.length ≤ D.length ∧
  ∀ y L, ntOk y = true → D = noteB y ++ L → ok = true → s = y.name ∧ (k : Int) = y.kind ∧ D' = pkA (nuL y) ++ L ∧ ok' = true
theorem BytP.hit {E L : List Int} {o : Bool} {c : Nat} {E' : List Int} {o' : Bool} (h : BytP E o c E' o') {b : Int} (he : E = b :: L) (ho : o = true) : (c : Int) = b ∧ E' = L ∧ o' = true := by
  rcases h.2 with ⟨h1, h2⟩ | ⟨_, _, _, h4 | h4⟩
  · rw [he] at h1
    simp only [List.cons.injEq] at h1
    exact ⟨h1.1.symm, h1.2.symm, h2.trans ho⟩
  · rw [he] at h4; cases h4
  · rw [ho] at h4; cases h4
theorem HedP.of {D D1 D2 D3 : List Int} {ok o1 o2 o3 : Bool} {c k : Nat} {s : ByteArray} (h1 : BytP D ok c D1 o1) (h2 : NamP D1 o1 c s D2 o2) (h3 : BytP D2 o2 k D3 o3) : HedP D ok s k D3 o3 := by
  obtain ⟨a1, a2, _⟩ := h1.len
  obtain ⟨b1, b2, _⟩ := h3.len
  obtain ⟨n1, n2, n3, n4⟩ := h2
  refine ⟨n1, h3.1, fun h => a2 (n3 (b2 h)), by omega, fun y L hy he ho => ?_⟩
  unfold noteB at he
  simp only [List.append_assoc, List.cons_append, List.nil_append] at he
  obtain ⟨e1, e2, e3⟩ := h1.hit he ho
  obtain ⟨e4, e5, e6⟩ := n4 y.name _ (by omega) e2 e3
  obtain ⟨e7, e8, e9⟩ := h3.hit e5 e6
  exact ⟨e4, e7, e8, e9⟩
/-- A note was read. -/
def NotP (D : List Int) (ok : Bool) (x : Nt) (D' : List Int) (ok' : Bool) : Prop :=
  x.name.size ≤ 255 ∧ x.terms.length + D'.length ≤ D.length + 1 ∧ (ok' = true → ok = true) ∧ D'.length ≤ D.length ∧
  ∀ y L, ntOk y = true → D = noteB y ++ L → ok = true → x = y ∧ D' = L ∧ ok' = true
/-- So many notes of a list were read, xs, with Z behind the list. -/
def BokP (S : List Int) (o : Bool) (j : Nat) (xs : List Nt) (D : List Int) (ok : Bool) : Prop :=
  ∀ ys Z, validNt ys = true → S = (ys.map noteB).flatten ++ Z → o = true → j ≤ ys.length → xs = ys.take j ∧ D = ((ys.drop j).map noteB).flatten ++ Z ∧ ok = true
theorem BokP.start (S : List Int) (o : Bool) : BokP S o 0 [] S o := fun ys Z _ h ho _ => ⟨by simp, by simpa using h, ho⟩
theorem BokP.step {S : List Int} {o : Bool} {j : Nat} {xs : List Nt} {D : List Int} {ok : Bool} (h : BokP S o j xs D ok) {x : Nt} {D' : List Int} {ok' : Bool} (hx : NotP D ok x D' ok') : BokP S o (j + 1) (xs ++ [x]) D' ok' := fun ys Z hv e ho hj => by
  obtain ⟨h1, h2, h3⟩ := h ys Z hv e ho (by omega)
  have hl : j < ys.length := hj
  have hd := List.drop_eq_getElem_cons hl
  rw [hd, List.map_cons, List.flatten_cons, List.append_assoc] at h2
  obtain ⟨q1, q2, q3⟩ := hx.2.2.2.2 ys[j] _ ((valid_all hv).2 _ (List.getElem_mem hl)) h2 h3
  exact ⟨by rw [h1, q1, List.take_append_getElem hl], q2, q3⟩
/-- The bytes of a packed text. -/
theorem byI_end {ys : List Nt} (hv : validNt ys = true) : byI (endB (bookB ys)) = 78 :: (ys.length : Int) :: ((ys.map noteB).flatten ++ [ckS (bookB ys) 1 / 256, ckS (bookB ys) 1 % 256]) := by
  obtain ⟨b1, b2, b3⟩ := book_bds hv
  obtain ⟨k1, k2⟩ := ckS_bd (bookB ys) 1 b2 (by omega) (by omega)
  unfold endB
  rw [byI_byS]
  · unfold bookB
    simp
  · intro x hx
    rcases List.mem_append.1 hx with h | h
    · exact b2 x h
    · simp only [List.mem_cons, List.not_mem_nil, or_false] at h
      rcases h with rfl | rfl <;> omega
/-- What a packed text is unpacked to. -/
noncomputable def upS (s : ByteArray) : Option (List Nt) := by
  classical
  exact if h : ∃ xs, validNt xs = true ∧ endB (bookB xs) = s then some h.choose else none
theorem upS_some {s : ByteArray} {xs : List Nt} (hu : ∀ ys, validNt ys = true → endB (bookB ys) = s → xs = ys) (hv : validNt xs = true) (he : endB (bookB xs) = s) : upS s = some xs := by
  unfold upS
  have h : ∃ xs, validNt xs = true ∧ endB (bookB xs) = s := ⟨xs, hv, he⟩
  rw [dif_pos h, hu _ h.choose_spec.1 h.choose_spec.2]
theorem upS_none {s : ByteArray} (hn : ∀ ys, validNt ys = true → endB (bookB ys) = s → False) : upS s = none := by
  unfold upS
  rw [dif_neg]
  rintro ⟨ys, h1, h2⟩
  exact hn ys h1 h2
end Go.Proofs.Ytkimmahmbacjpaa

/- What readers of notes tell: the plain law. No condition but those that each theorem names. -/
namespace Go.Proofs.Ytkimmahmbacjpaa
open Go.RowKit Go.Sort

theorem nu1 {x : Nt} (h : x.kind = 1) : nuL x = [x.num, x.den] := by unfold nuL; rw [if_pos h]
theorem nu2 {x : Nt} (h : x.kind = 2) : nuL x = (x.terms.length : Int) :: x.terms := by unfold nuL; rw [if_neg (by omega), if_pos h]
theorem nu3 {x : Nt} (h : x.kind = 3) : nuL x = [x.sp, x.sd, x.sq] := by unfold nuL; rw [if_neg (by omega), if_neg (by omega)]
theorem pkA_cons1 (n : Int) (ns : List Int) : pkA (n :: ns) = pkL (zigN n) ++ pkA ns := by simp [pkA]
theorem pkA_app (a b : List Int) : pkA (a ++ b) = pkA a ++ pkA b := by simp [pkA]
theorem termsAll_bd9 : ∀ (ts : List Int) (k : Nat), termsAll k ts = true → ∀ t ∈ ts, -1000000000 ≤ t ∧ t ≤ 1000000000
  | [], _, _, t, ht => by simp at ht
  | x :: xs, k, h, t, ht => by
    have h' : (tmB k x && termsAll (k + 1) xs) = true := h
    rw [Bool.and_eq_true] at h'
    rcases List.mem_cons.1 ht with rfl | ht
    · have h1 := h'.1
      unfold tmB inR at h1
      simp at h1
      split at h1 <;> omega
    · exact termsAll_bd9 xs (k + 1) h'.2 t ht
theorem zT_nil {x : Nt} (h : x.zT = true) : x.terms = [] := by
  unfold Nt.zT at h
  exact List.length_eq_zero_iff.1 (by simpa using h)
theorem zS_zero {x : Nt} (h : x.zS = true) : x.sp = 0 ∧ x.sd = 0 ∧ x.sq = 0 := by
  unfold Nt.zS at h
  simpa using h
theorem zF_zero {x : Nt} (h : x.zF = true) : x.num = 0 ∧ x.den = 0 := by
  unfold Nt.zF at h
  simpa using h
theorem ntOk_1 {x : Nt} (h : ntOk x = true) (hk : x.kind = 1) : (x.terms = [] ∧ x.sp = 0 ∧ x.sd = 0 ∧ x.sq = 0) ∧ ∀ m ∈ [x.num, x.den], -1000000000000 ≤ m ∧ m ≤ 1000000000000 := by
  unfold ntOk at h
  rw [Bool.and_eq_true, if_pos hk, Bool.and_eq_true, Bool.and_eq_true] at h
  obtain ⟨a, b, c, e, _⟩ := fracOk_true.1 h.2.1
  refine ⟨⟨zT_nil h.2.2.1, zS_zero h.2.2.2⟩, fun m hm => ?_⟩
  simp only [List.mem_cons, List.not_mem_nil, or_false] at hm
  rcases hm with rfl | rfl <;> omega
theorem ntOk_2 {x : Nt} (h : ntOk x = true) (hk : x.kind = 2) : (x.num = 0 ∧ x.den = 0 ∧ x.sp = 0 ∧ x.sd = 0 ∧ x.sq = 0) ∧ (1 ≤ x.terms.length ∧ x.terms.length ≤ 60) ∧ ∀ m ∈ x.terms, -1000000000000 ≤ m ∧ m ≤ 1000000000000 := by
  unfold ntOk at h
  rw [Bool.and_eq_true, if_neg (by omega), if_pos hk, Bool.and_eq_true, Bool.and_eq_true] at h
  have h3 := h.2.1
  unfold termsB at h3
  rw [Bool.and_eq_true] at h3
  obtain ⟨l1, l2⟩ := inR_true.1 h3.2
  obtain ⟨f1, f2⟩ := zF_zero h.2.2.1
  refine ⟨⟨f1, f2, zS_zero h.2.2.2⟩, by omega, fun m hm => ?_⟩
  have := termsAll_bd9 _ 0 h3.1 m hm
  omega
theorem ntOk_3 {x : Nt} (h : ntOk x = true) (hk : x.kind = 3) : (x.num = 0 ∧ x.den = 0 ∧ x.terms = []) ∧ ∀ m ∈ [x.sp, x.sd, x.sq], -1000000000000 ≤ m ∧ m ≤ 1000000000000 := by
  unfold ntOk at h
  rw [Bool.and_eq_true, if_neg (by omega), if_neg (by omega), if_pos hk, Bool.and_eq_true, Bool.and_eq_true] at h
  obtain ⟨f1, f2⟩ := zF_zero h.2.2.1
  obtain ⟨a, _, b, c, _⟩ := surdB_true.1 h.2.1
  refine ⟨⟨f1, f2, zT_nil h.2.2.2⟩, fun m hm => ?_⟩
  simp only [List.mem_cons, List.not_mem_nil, or_false] at hm
  rcases hm with rfl | rfl | rfl <;> omega
section
variable {D E D' : List Int} {ok o ok' : Bool} {s : ByteArray}
theorem NotP.one {a b : Int} (h : HedP D ok s 1 E o) (hs : SeqP E o [a, b] D' ok') : NotP D ok ⟨s, 1, a, b, [], 0, 0, 0⟩ D' ok' := by
  obtain ⟨h1, h2, h3, h4, h5⟩ := h
  obtain ⟨s1, s2, s3⟩ := hs
  refine ⟨h1, by simp; omega, fun h => h3 (s1 h), by omega, fun y L hy he ho => ?_⟩
  obtain ⟨e1, e2, e3, e4⟩ := h5 y L hy he ho
  have hk : y.kind = 1 := by omega
  obtain ⟨⟨z1, z2, z3, z4⟩, hb⟩ := ntOk_1 hy hk
  rw [nu1 hk] at e3
  obtain ⟨q1, q2, q3⟩ := s3 _ L hb (by simp) e3 e4
  simp only [List.cons.injEq, and_true] at q1
  refine ⟨?_, q2, q3⟩
  rw [e1, q1.1, q1.2, ← hk, ← z1, ← z2]
  cases y
  simp only at z1 z2 z3 z4 ⊢
  rw [z3, z4, z2]
theorem NotP.three {a b c : Int} (h : HedP D ok s 3 E o) (hs : SeqP E o [a, b, c] D' ok') : NotP D ok ⟨s, 3, 0, 0, [], a, b, c⟩ D' ok' := by
  obtain ⟨h1, h2, h3, h4, h5⟩ := h
  obtain ⟨s1, s2, s3⟩ := hs
  refine ⟨h1, by simp; omega, fun h => h3 (s1 h), by omega, fun y L hy he ho => ?_⟩
  obtain ⟨e1, e2, e3, e4⟩ := h5 y L hy he ho
  have hk : y.kind = 3 := by omega
  obtain ⟨⟨z1, z2, z3⟩, hb⟩ := ntOk_3 hy hk
  rw [nu3 hk] at e3
  obtain ⟨q1, q2, q3⟩ := s3 _ L hb (by simp) e3 e4
  simp only [List.cons.injEq, and_true] at q1
  refine ⟨?_, q2, q3⟩
  rw [e1, q1.1, q1.2.1, q1.2.2]
  cases y
  simp only at z1 z2 z3 hk ⊢
  rw [z1, z2, z3, hk]
theorem NotP.two {n : Int} {E1 : List Int} {o1 : Bool} {ts : List Int} (h : HedP D ok s 2 E o) (hn : NumP E o n E1 o1) (hs : SeqP E1 o1 ts D' ok') (hl : ts.length + D'.length ≤ E1.length + 1) (h1 : (ts.length : Int) ≤ n ∨ ts.length = 0) (h2 : n ≤ ts.length ∨ ok' = false) :
    NotP D ok ⟨s, 2, 0, 0, ts, 0, 0, 0⟩ D' ok' := by
  obtain ⟨g1, g2, g3, g4, g5⟩ := h
  obtain ⟨_, _, n3, _, n5, n6⟩ := hn
  obtain ⟨s1, s2, s3⟩ := hs
  refine ⟨g1, by simp; omega, fun h => g3 (n3 (s1 h)), by omega, fun y L hy he ho => ?_⟩
  obtain ⟨e1, e2, e3, e4⟩ := g5 y L hy he ho
  have hk : y.kind = 2 := by omega
  obtain ⟨⟨z1, z2, z3, z4, z5⟩, ⟨l1, l2⟩, hb⟩ := ntOk_2 hy hk
  rw [nu2 hk, pkA_cons1, List.append_assoc] at e3
  obtain ⟨q1, q2, q3⟩ := n6 (y.terms.length : Int) _ (by omega) (by omega) e3 e4
  have hle : ts.length ≤ y.terms.length := by omega
  have e5 : E1 = pkA (y.terms.take ts.length) ++ (pkA (y.terms.drop ts.length) ++ L) := by
    rw [q2, ← List.append_assoc, ← pkA_app, List.take_append_drop]
  obtain ⟨r1, r2, r3⟩ := s3 _ _ (fun m hm => hb m (List.mem_of_mem_take hm)) (by rw [List.length_take]; omega) e5 q3
  have hge : y.terms.length ≤ ts.length := by
    rcases h2 with h2 | h2
    · omega
    · rw [r3] at h2; cases h2
  have hT : ts = y.terms := by rw [r1, List.take_of_length_le (by omega)]
  refine ⟨?_, by rw [r2, List.drop_of_length_le hge]; simp [pkA], r3⟩
  rw [e1, hT]
  cases y
  simp only at z1 z2 z3 z4 z5 hk ⊢
  rw [z1, z2, z3, z4, z5, hk]
theorem NotP.other {k : Nat} {x : Nt} (h : HedP D ok s k E o) (hk : k ≠ 1 ∧ k ≠ 2 ∧ k ≠ 3) (h1 : x.name.size ≤ 255) (h2 : x.terms.length = 0) (h3 : ok' = true → o = true) (h4 : D'.length ≤ E.length) : NotP D ok x D' ok' := by
  obtain ⟨g1, g2, g3, g4, g5⟩ := h
  refine ⟨h1, by omega, fun h => g3 (h3 h), by omega, fun y L hy he ho => ?_⟩
  obtain ⟨e1, e2, e3, e4⟩ := g5 y L hy he ho
  have := (ntOk_bds hy).2
  omega
theorem NotP.fail {c : Nat} {D1 : List Int} {o1 : Bool} (hb : BytP D ok c D1 o1) (h : o1 = false ∨ D1.length < c) : NotP D ok ⟨⟨#[]⟩, 0, 0, 0, [], 0, 0, 0⟩ D1 false := by
  obtain ⟨b1, b2, b3⟩ := hb.len
  refine ⟨Nat.zero_le _, by simp; omega, by simp, b1, fun y L hy he ho => ?_⟩
  unfold noteB at he
  simp only [List.append_assoc, List.cons_append, List.nil_append] at he
  obtain ⟨e1, e2, e3⟩ := hb.hit he ho
  rcases h with h | h
  · rw [h] at e3; cases e3
  · have := congrArg List.length e2
    rw [List.length_append, byI_length] at this
    omega
end
end Go.Proofs.Ytkimmahmbacjpaa

/- While a note is read: its box, its terms. No condition but those that each theorem names. -/
namespace Go.Proofs.Ytkimmahmbacjpaa
open Go.RowKit Go.Sort

/-- A note's cells, its terms as any value. -/
@[reducible] def ntLv (x : Nt) (v : Value) : List Value := [.string x.name, .int .i64 x.kind, .int .i64 x.num, .int .i64 x.den, v, .int .i64 x.sp, .int .i64 x.sd, .int .i64 x.sq]
@[reducible] def ntZv : List Value := [.string ⟨#[]⟩, .int .i64 0, .int .i64 0, .int .i64 0, .slice none 0 0, .int .i64 0, .int .i64 0, .int .i64 0]
theorem own_put {b j : Nat} {u : Value} {W : World} {base : Nat} {e : TypeId} {size n : Nat} {v : Value} {xs : List Value} (h : W.ownsRow base e size v n xs) (hb : v.ownBlock ≠ some b) : (W.setCell ⟨b, j, none⟩ u).ownsRow base e size v n xs := by
  obtain ⟨h1, h2⟩ := h
  refine ⟨h1, ?_⟩
  rcases h2 with h2 | ⟨c, cap, cur, hv, hc, hh, r⟩
  · exact .inl h2
  · refine .inr ⟨c, cap, cur, hv, hc, ?_, r⟩
    have hne : c ≠ b := fun e => hb (by rw [hv, e]; rfl)
    exact (Below.heap_setCell W ⟨b, j, none⟩ u c (by simp; exact hne)).trans hh
theorem own_keptU {g : Nat} {W W' : World} {base : Nat} {e : TypeId} {size n : Nat} {v : Value} {xs : List Value} (h : W.ownsRow base e size v n xs) (k : Keep g W W') (hg : g < base) : W'.ownsRow base e size v n xs := by
  obtain ⟨h1, h2⟩ := h
  refine ⟨h1, ?_⟩
  rcases h2 with h2 | ⟨b, cap, cur, hv, hb, hh, r⟩
  · exact .inl h2
  · have hlt : b < W.heap.size := (Array.getElem?_eq_some_iff.1 hh).1
    exact .inr ⟨b, cap, cur, hv, hb, (k.2.2 b (by omega) hlt).trans hh, r⟩
theorem BoxV.keepU {g s : Nat} {vs : List Value} {W W' : World} (h : BoxV g vs W) (k : Keep s W W') (hg : g ≠ s) : BoxV g vs W' :=
  ⟨fun j v hv => (k.cell hg h.lt).trans (h.c j v hv), fun j => (k.frozen hg h.lt).trans (h.f j), Nat.lt_of_lt_of_le h.lt k.2.1⟩
theorem Keep.putU {g : Nat} {a b : World} (h : Keep g a b) (hg : g < a.heap.size) {i : Nat} (hi : a.heap.size ≤ i) (j : Nat) (u : Value) : Keep g a (b.setCell ⟨i, j, none⟩ u) :=
  ⟨h.1.setCell (by simp; omega) u, by simpa using h.2.1, fun k hk hl => (Below.heap_setCell b ⟨i, j, none⟩ u k (by simp; omega)).trans (h.2.2 k hk hl)⟩
/-- The state of a reader of a note: the result's box, the note's box, its terms. -/
structure UI (g b : Nat) (x : Nt) (v : Value) (w W : World) : Prop where
  keep : Keep g w W
  r : BoxV w.heap.size ntZv W
  s : BoxV b (ntLv x v) W
  row : W.ownsRow (w.heap.size + 1) 2 1 v x.terms.length (x.terms.map (Value.int .i64))
  far : v.ownBlock ≠ some b
  hb : w.heap.size < b
  hg : g < w.heap.size
section
variable {g b : Nat} {x : Nt} {v : Value} {w W W' : World}
theorem UI.kept (t : UI g b x v w W) (k : Keep g W W') : UI g b x v w W' :=
  ⟨t.keep.trans k, t.r.keepU k (by have := t.hg; omega), t.s.keepU k (by have := t.hg; have := t.hb; omega), own_keptU t.row k (by have := t.hg; omega), t.far, t.hb, t.hg⟩
theorem UI.next (t : UI g b x v w W) (hb : Below W.heap.size W W') : UI g b x v w W' := t.kept (Keep.of hb (Nat.lt_of_lt_of_le t.hg t.keep.2.1))
theorem UI.kind (t : UI g b x v w W) (k : Int) : UI g b { x with kind := k } v w (W.setCell ⟨b, 1, none⟩ (.int .i64 k)) :=
  ⟨t.keep.putU t.hg (Nat.le_of_lt t.hb) _ _, t.r.setFar _ (by have := t.hb; omega), t.s.set 1 _ (by simp), own_put t.row t.far, t.far, t.hb, t.hg⟩
theorem UI.num (t : UI g b x v w W) (k : Int) : UI g b { x with num := k } v w (W.setCell ⟨b, 2, none⟩ (.int .i64 k)) :=
  ⟨t.keep.putU t.hg (Nat.le_of_lt t.hb) _ _, t.r.setFar _ (by have := t.hb; omega), t.s.set 2 _ (by simp), own_put t.row t.far, t.far, t.hb, t.hg⟩
theorem UI.den (t : UI g b x v w W) (k : Int) : UI g b { x with den := k } v w (W.setCell ⟨b, 3, none⟩ (.int .i64 k)) :=
  ⟨t.keep.putU t.hg (Nat.le_of_lt t.hb) _ _, t.r.setFar _ (by have := t.hb; omega), t.s.set 3 _ (by simp), own_put t.row t.far, t.far, t.hb, t.hg⟩
theorem UI.sp (t : UI g b x v w W) (k : Int) : UI g b { x with sp := k } v w (W.setCell ⟨b, 5, none⟩ (.int .i64 k)) :=
  ⟨t.keep.putU t.hg (Nat.le_of_lt t.hb) _ _, t.r.setFar _ (by have := t.hb; omega), t.s.set 5 _ (by simp), own_put t.row t.far, t.far, t.hb, t.hg⟩
theorem UI.sd (t : UI g b x v w W) (k : Int) : UI g b { x with sd := k } v w (W.setCell ⟨b, 6, none⟩ (.int .i64 k)) :=
  ⟨t.keep.putU t.hg (Nat.le_of_lt t.hb) _ _, t.r.setFar _ (by have := t.hb; omega), t.s.set 6 _ (by simp), own_put t.row t.far, t.far, t.hb, t.hg⟩
theorem UI.sq (t : UI g b x v w W) (k : Int) : UI g b { x with sq := k } v w (W.setCell ⟨b, 7, none⟩ (.int .i64 k)) :=
  ⟨t.keep.putU t.hg (Nat.le_of_lt t.hb) _ _, t.r.setFar _ (by have := t.hb; omega), t.s.set 7 _ (by simp), own_put t.row t.far, t.far, t.hb, t.hg⟩
/-- Behind an append to the terms. -/
theorem UI.push (t : UI g b x v w W) {y : Int} {v' : Value} (hown : W'.ownsRow (w.heap.size + 1) 2 1 v' (x.terms.length + 1) (x.terms.map (Value.int .i64) ++ [.int .i64 y])) (hgr : W.grownBy W' v.ownBlock) (hf : v'.ownBlock ≠ some b) :
    UI g b { x with terms := x.terms ++ [y] } v' w (W'.setCell ⟨b, 4, none⟩ v') := by
  have hl := fun k hk => (t.row.lt k hk).1
  have hg := t.hg
  have hb := t.hb
  have hs := t.keep.2.1
  have k2 : Keep g w W' := ⟨t.keep.1.grown hgr (by omega) (fun k hk => by have := hl k hk; omega), Nat.le_trans hs hgr.size, fun c hc hlt =>
    (hgr.block c (Nat.lt_of_lt_of_le hlt hs) (fun e => by have := hl c e.symm; omega)).trans (t.keep.2.2 c hc hlt)⟩
  refine ⟨k2.putU hg (Nat.le_of_lt hb) _ _, (t.r.grown hgr (fun e => by have := hl _ e; omega)).setFar _ (by omega), (t.s.grown hgr t.far).set 4 _ (by simp), ?_, hf, hb, hg⟩
  refine own_put ?_ hf
  simpa using hown
/-- The result's box is written. -/
theorem UI.fin (t : UI g b x v w W) (a0 a1 a2 a3 a4 a5 a6 a7 : Value) :
    ((((((((W.setCell ⟨w.heap.size, 0, none⟩ a0).setCell ⟨w.heap.size, 1, none⟩ a1).setCell ⟨w.heap.size, 2, none⟩ a2).setCell ⟨w.heap.size, 3, none⟩ a3).setCell ⟨w.heap.size, 4, none⟩ a4).setCell ⟨w.heap.size, 5, none⟩ a5).setCell ⟨w.heap.size, 6, none⟩ a6).setCell ⟨w.heap.size, 7, none⟩ a7).ownsRow (w.heap.size + 1) 2 1 v x.terms.length (x.terms.map (Value.int .i64)) ∧ Keep g w ((((((((W.setCell ⟨w.heap.size, 0, none⟩ a0).setCell ⟨w.heap.size, 1, none⟩ a1).setCell ⟨w.heap.size, 2, none⟩ a2).setCell ⟨w.heap.size, 3, none⟩ a3).setCell ⟨w.heap.size, 4, none⟩ a4).setCell ⟨w.heap.size, 5, none⟩ a5).setCell ⟨w.heap.size, 6, none⟩ a6).setCell ⟨w.heap.size, 7, none⟩ a7) := by
  have hf : v.ownBlock ≠ some w.heap.size := fun e => by have := (t.row.lt _ e).1; omega
  have hg := t.hg
  refine ⟨?_, ?_⟩
  · iterate 8 (refine own_put ?_ hf)
    exact t.row
  · iterate 8 (refine Keep.putU ?_ hg (Nat.le_refl _) _ _)
    exact t.keep
end
/-- A row of terms of one's own. -/
theorem own_wrT {W : World} {base : Nat} {A : Option Addr} {c n : Nat} {xs : List Int} (h : W.ownsRow base 2 1 (.slice A n c) n (xs.map (Value.int .i64))) : WrT W base A c xs := by
  obtain ⟨rfl, A2, c2, e, hw⟩ := Wr.of_own h
  injection e with e1 e2 e3
  subst e1
  refine ⟨hw, ?_⟩
  rcases h.2 with ⟨h1, h0⟩ | ⟨g, cap, cur, h1, _, _, hc, hm, _⟩
  · injection h1 with _ _ h1
    subst h1
    exact ⟨by omega, by unfold maxLen; omega⟩
  · injection h1 with _ _ h1
    subst h1
    exact ⟨hc, hm⟩
/-- A slice of notes on its way, while only block gk is written. -/
theorem OutNt.kept {w : World} {base : Nat} {rs : List NtR} {own : Nat → Nat} {v : Value} {W W' : World} {gk : Nat} (h : OutNt w base rs own v W) (k : Keep gk W W') (h1 : gk < base) (h2 : w.heap.size ≤ gk) : OutNt w base rs own v W' :=
  ⟨own_keptU h.row k h1, fun j r hr => ⟨⟨Wr.of_blocks (h.ts j r hr).1.1 k.2.1 fun t o i e hp hlt => k.2.2 t (fun e2 => by
      obtain ⟨tb, to, e3, q1, _⟩ := (h.ts j r hr).1.1 hp
      rw [e] at e3
      injection e3 with e3
      injection e3 with e3
      omega) hlt, (h.ts j r hr).1.2⟩, fun t o i e hn => ⟨((h.ts j r hr).2 t o i e hn).1, Nat.lt_of_lt_of_le ((h.ts j r hr).2 t o i e hn).2 k.2.1⟩⟩, h.own0, h.bel.trans (k.1.mono h2), h.low, Nat.le_trans h.hi k.2.1⟩
/-- One more note that a reader gave. -/
theorem OutNt.pushK {w : World} {base : Nat} {rs : List NtR} {own : Nat → Nat} {v : Value} {W W2 W2a w3 : World} {gk : Nat} (h : OutNt w base rs own v W) {x : Nt} {T : Option Addr} {c : Nat} (hk : Keep gk W W2) (hk1 : gk < base) (hk2 : w.heap.size ≤ gk) (hT : WrT W2 W.heap.size T c x.terms) (hb2a : Below W2.heap.size W2 W2a)
    {g cap : Nat} (hown3 : w3.ownsRow base 36 8 (.slice (some ⟨g, 0, none⟩) (rs.length + 1) cap) (rs.length + 1) (flatR rs ++ ntC x T c)) (hg : W2a.grownBy w3 v.ownBlock) (hat : v.ownBlock = some g ∨ g = W2a.heap.size) :
    OutNt w base (rs ++ [⟨x, T, c⟩]) (fun t => if W2.heap.size ≤ t then 0 else if W.heap.size ≤ t then rs.length + 1 else own t) (.slice (some ⟨g, 0, none⟩) (rs.length + 1) cap) w3 := by
  have hV := fun k hk => h.row.lt k hk
  have h' := h.kept hk hk1 hk2
  have s1 := hk.2.1
  have s2 := hb2a.size
  have s3 := hg.size
  refine ⟨by rw [flatR_append, flatR_one, List.length_append]; exact hown3, fun j r hr => ?_, fun g' e => ?_, below_grown (ext_trans h'.bel hb2a) (own_below h'.row hb2a) h.low hg, h.low, by have := h.hi; omega⟩
  · rcases Nat.lt_or_ge j rs.length with hj | hj
    · rw [List.getElem?_append_left hj] at hr
      obtain ⟨_, t2⟩ := h.ts j r hr
      obtain ⟨t1, _⟩ := h'.ts j r hr
      refine ⟨(t1.below hb2a).grown hg fun t o i e hn e2 => ?_, fun t o i e hn => ?_⟩
      · have h1 := (t2 t o i e hn).1
        have h2 := h.own0 t e2.symm
        omega
      · obtain ⟨q1, q2⟩ := t2 t o i e hn
        refine ⟨?_, by omega⟩
        show (if _ then _ else _) = _
        rw [if_neg (by omega), if_neg (by omega)]
        exact q1
    · have hj2 : j = rs.length := by
        have := (List.getElem?_eq_some_iff.1 hr).1
        simp at this
        omega
      subst hj2
      rw [List.getElem?_append_right (Nat.le_refl _), Nat.sub_self] at hr
      simp at hr
      subst hr
      have hlo : ∀ t o i, T = some ⟨t, o, i⟩ → 0 < x.terms.length → W.heap.size ≤ t ∧ t < W2.heap.size := fun t o i e hn => by
        obtain ⟨tb, to, e2, q1, q2, _⟩ := hT.1 hn
        rw [e] at e2
        injection e2 with e2
        injection e2 with e2
        subst e2
        exact ⟨q1, q2⟩
      refine ⟨(((hT.below hb2a).grown hg fun t o i e hn e2 => ?_).more h.hi), fun t o i e hn => ?_⟩
      · have := (hV t e2.symm).2
        have := (hlo t o i e hn).1
        omega
      · obtain ⟨q1, q2⟩ := hlo t o i e hn
        refine ⟨?_, by omega⟩
        show (if _ then _ else _) = _
        rw [if_neg (by omega), if_pos q1]
  · have eg : g = g' := by
      have : some g = some g' := e
      injection this
    subst eg
    show (if _ then _ else _) = _
    rcases hat with e2 | e2
    · have := (hV g e2).2
      rw [if_neg (by omega), if_neg (by omega)]
      exact h.own0 g e2
    · rw [if_pos (by omega)]
/-- What a reader of a note returns. -/
def RetUn (S : List Int → Bool → World → Prop) (g : Nat) (D : List Int) (ok : Bool) (w : World) (e : Ending) (w' : World) : Prop := ∃ (x : Nt) (v : Value) (D' : List Int) (ok' : Bool), e = .returned (.agg #[.string x.name, .int .i64 x.kind, .int .i64 x.num, .int .i64 x.den, v, .int .i64 x.sp, .int .i64 x.sd, .int .i64 x.sq]) ∧
  NotP D ok x D' ok' ∧ S D' ok' w' ∧ Keep g w w' ∧ w'.ownsRow (w.heap.size + 1) 2 1 v x.terms.length (x.terms.map (Value.int .i64))
/-- What is unpacked, and the code. -/
noncomputable def unX (s : ByteArray) : List Nt := (upS s).getD []
noncomputable def unC (s : ByteArray) : Int := if (upS s).isSome then 0 else 8
/-- What a reader of a whole text tells at its end. -/
theorem un_good {s : ByteArray} {xs : List Nt} (hu : ∀ ys, validNt ys = true → endB (bookB ys) = s → xs = ys) (hv : validNt xs = true) (he : endB (bookB xs) = s) : unX s = xs ∧ unC s = 0 := by
  unfold unX unC
  rw [upS_some hu hv he]
  exact ⟨rfl, rfl⟩
theorem un_bad {s : ByteArray} (hn : ∀ ys, validNt ys = true → endB (bookB ys) = s → False) : unX s = [] ∧ unC s = 8 := by
  unfold unX unC
  rw [upS_none hn]
  exact ⟨rfl, rfl⟩
theorem unX_bd (s : ByteArray) : (unX s).length ≤ 40 ∧ ∀ x ∈ unX s, x.terms.length ≤ 1048576 := by
  unfold unX upS
  split
  · rename_i h
    obtain ⟨h1, h2⟩ := valid_all h.choose_spec.1
    refine ⟨h1, fun x hx => ?_⟩
    have := ntOk_nu (h2 x hx)
    have h3 := (ntOk_bds (h2 x hx)).2
    have hk : ntOk x = true := h2 x hx
    rcases h3 with h3 | h3 | h3
    · rw [(ntOk_1 hk h3).1.1]; simp
    · have := (ntOk_2 hk h3).2.1; omega
    · rw [(ntOk_3 hk h3).1.2.2]; simp
  · exact ⟨by simp, fun x hx => by simp at hx⟩
end Go.Proofs.Ytkimmahmbacjpaa
