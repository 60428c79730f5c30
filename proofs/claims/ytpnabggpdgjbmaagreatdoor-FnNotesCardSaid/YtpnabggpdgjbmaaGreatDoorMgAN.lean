/- Parts of the proof, merged: UnpP UnpQ StrS TmP MarkNtP CopyNtP NlB. No condition but those that each theorem names. -/
import Derived.Test.YtpnabggpdgjbmaaGreatDoorMgAM
import Derived.Test.YtpnabggpdgjbmaaGreatDoorMgAB
import Derived.Laws.IdiomStrings
import Derived.Test.YtpnabggpdgjbmaaGreatDoorMgAE
import Derived.Test.YtpnabggpdgjbmaaGreatDoorMgAC
import Derived.IntWalk
import Derived.Deep.AppendLies
import Derived.Test.YtpnabggpdgjbmaaGreatDoorMgAK
namespace Go.Proofs.YtpnabggpdgjbmaaGreatDoor
open Go.RowKit Go.Sort
/-- A byte was read: from D and ok to D' and ok'. -/
def BytP (D : List Int) (ok : Bool) (c : Nat) (D' : List Int) (ok' : Bool) : Prop :=
  c ≤ 255 ∧ ((D = (c : Int) :: D' ∧ ok' = ok) ∨ (ok' = false ∧ D' = D ∧ c = 0 ∧ (D = [] ∨ ok = false)))
/-- A number was read. -/
def NumP (D : List Int) (ok : Bool) (n : Int) (D' : List Int) (ok' : Bool) : Prop :=
  -4611686018427387904 ≤ n ∧ n ≤ 4611686018427387904 ∧ (ok' = true → ok = true) ∧ (ok' = false ∨ D'.length < D.length) ∧ D'.length ≤ D.length ∧
  ∀ m L, -1000000000000 ≤ m → m ≤ 1000000000000 → D = pkL (zigN m) ++ L → ok = true → n = m ∧ D' = L ∧ ok' = true
/-- On its way. -/
def NumI (D : List Int) (ok : Bool) (k N : Nat) (E : List Int) (o : Bool) : Prop :=
  N < 128 ^ k ∧ (o = true → ok = true) ∧ E.length ≤ D.length ∧
  ∀ m L, -1000000000000 ≤ m → m ≤ 1000000000000 → D = pkL (zigN m) ++ L → ok = true → ∃ z, zigN m = N + z * 128 ^ k ∧ E = pkL z ++ L ∧ o = true ∧ (k = 0 ∨ 0 < z)
theorem NumI.start (D : List Int) (ok : Bool) : NumI D ok 0 0 D ok := ⟨by simp, id, Nat.le_refl _, fun m L _ _ h h2 => ⟨zigN m, by simp, h, h2, .inl rfl⟩⟩
theorem pkL_ne (z : Nat) (L : List Int) : pkL z ++ L ≠ [] := by
  rw [pkL]; split <;> simp
theorem BytP.len {D : List Int} {ok : Bool} {c : Nat} {D' : List Int} {ok' : Bool} (h : BytP D ok c D' ok') : D'.length ≤ D.length ∧ (ok' = true → ok = true) ∧ (ok' = false ∨ D'.length < D.length) := by
  rcases h.2 with ⟨rfl, rfl⟩ | ⟨rfl, rfl, _, _⟩
  · exact ⟨by simp, id, .inr (by simp)⟩
  · exact ⟨Nat.le_refl _, by simp, .inl rfl⟩
/-- The first byte of a number that lies ahead. -/
theorem BytP.num {E L : List Int} {o : Bool} {c z : Nat} {E' : List Int} {o' : Bool} (h : BytP E o c E' o') (he : E = pkL z ++ L) (ho : o = true) : o' = o ∧ (128 ≤ z → c = z % 128 + 128 ∧ E' = pkL (z / 128) ++ L) ∧ (z < 128 → c = z ∧ E' = L) := by
  rcases h.2 with ⟨h1, h2⟩ | ⟨_, _, _, h4 | h4⟩
  · refine ⟨h2, fun hz => ?_, fun hz => ?_⟩
    · rw [he, pkL_big hz] at h1
      simp only [List.cons_append, List.cons.injEq] at h1
      exact ⟨by omega, h1.2.symm⟩
    · rw [he, pkL_small (by omega)] at h1
      simp only [List.cons_append, List.nil_append, List.cons.injEq] at h1
      exact ⟨by omega, h1.2.symm⟩
  · exact absurd (he.symm.trans h4) (pkL_ne z L)
  · rw [ho] at h4; cases h4
theorem pow_step (k : Nat) : 128 ^ (k + 1) = 128 ^ k * 128 := Nat.pow_succ ..
theorem NumI.step {D : List Int} {ok : Bool} {k N : Nat} {E : List Int} {o : Bool} (h : NumI D ok k N E o) {c : Nat} {E' : List Int} {o' : Bool} (hb : BytP E o c E' o') (hc : 128 ≤ c) : NumI D ok (k + 1) (N + c % 128 * 128 ^ k) E' o' := by
  obtain ⟨h1, h2, h3, h4⟩ := h
  obtain ⟨b1, b2, _⟩ := hb.len
  refine ⟨?_, fun h => h2 (b2 h), Nat.le_trans b1 h3, fun m L m1 m2 e1 e2 => ?_⟩
  · have : c % 128 * 128 ^ k ≤ 127 * 128 ^ k := Nat.mul_le_mul_right _ (by omega)
    rw [pow_step]
    omega
  · obtain ⟨z, z1, z2, z3, z4⟩ := h4 m L m1 m2 e1 e2
    obtain ⟨n1, n2, n3⟩ := hb.num z2 z3
    by_cases hz : 128 ≤ z
    · obtain ⟨q1, q2⟩ := n2 hz
      refine ⟨z / 128, ?_, q2, by rw [n1, z3], .inr (by omega)⟩
      rw [z1, q1, pow_step]
      have e : (z % 128 + 128) % 128 = z % 128 := by omega
      rw [e]
      have e2 := Nat.div_add_mod z 128
      have e3 : z * 128 ^ k = (128 * (z / 128) + z % 128) * 128 ^ k := by rw [e2]
      rw [e3, Nat.add_mul, Nat.add_assoc]
      congr 1
      rw [Nat.add_comm]
      congr 1
      rw [Nat.mul_assoc, Nat.mul_comm 128, Nat.mul_assoc]
    · have := (n3 (by omega)).1
      omega
theorem zig_even {m : Int} {z : Nat} (h : zigN m = z) (hz : z % 2 = 0) : m = (z / 2 : Nat) := by
  unfold zigN at h; split at h <;> omega
theorem zig_odd {m : Int} {z : Nat} (h : zigN m = z) (hz : z % 2 = 1) : m = -((z / 2 : Nat) : Int) - 1 := by
  unfold zigN at h; split at h <;> omega
/-- The number that a sum of sevens tells. -/
def unz (z : Nat) : Int := if z % 2 = 1 then -((z / 2 : Nat) : Int) - 1 else ((z / 2 : Nat) : Int)
theorem unz_zig (m : Int) : unz (zigN m) = m := by
  unfold unz
  split
  · rename_i h; exact (zig_odd rfl h).symm
  · rename_i h; exact (zig_even rfl (by omega)).symm
theorem NumI.done {D : List Int} {ok : Bool} {k N : Nat} {E : List Int} {o : Bool} (h : NumI D ok k N E o) (hk : k ≤ 8) {c : Nat} {E' : List Int} {o' : Bool} (hb : BytP E o c E' o') (hc : c < 128) {o2 : Bool} (ho : o2 = (o' && (decide (0 < c) || decide (k = 0))) ∨ o2 = o') :
    NumP D ok (unz (N + c * 128 ^ k)) E' o2 := by
  obtain ⟨h1, h2, h3, h4⟩ := h
  obtain ⟨b1, b2, b3⟩ := hb.len
  have o3 : o2 = true → o' = true := by
    rcases ho with rfl | rfl
    · intro h; rw [Bool.and_eq_true] at h; exact h.1
    · exact id
  have hp : 128 ^ (k + 1) ≤ 128 ^ 9 := Nat.pow_le_pow_right (by omega) (by omega)
  have e9 : (128 : Nat) ^ 9 = 9223372036854775808 := by decide
  have hN : N + c * 128 ^ k < 9223372036854775808 := by
    have : c * 128 ^ k ≤ 127 * 128 ^ k := Nat.mul_le_mul_right _ (by omega)
    rw [pow_step] at hp
    omega
  refine ⟨by unfold unz; split <;> omega, by unfold unz; split <;> omega, fun h => h2 (b2 (o3 h)), ?_, Nat.le_trans b1 h3, fun m L m1 m2 e1 e2 => ?_⟩
  · rcases b3 with b3 | b3
    · left
      cases ho2 : o2
      · rfl
      · rw [o3 ho2] at b3; cases b3
    · exact .inr (by omega)
  · obtain ⟨z, z1, z2, z3, z4⟩ := h4 m L m1 m2 e1 e2
    obtain ⟨n1, n2, n3⟩ := hb.num z2 z3
    have hz : z < 128 := by
      rcases Nat.lt_or_ge z 128 with g | g
      · exact g
      · have := (n2 g).1; omega
    obtain ⟨q1, q2⟩ := n3 hz
    refine ⟨by rw [q1, ← z1]; exact unz_zig m, q2, ?_⟩
    rcases ho with rfl | rfl
    · rw [n1, z3, Bool.true_and, Bool.or_eq_true]
      rcases z4 with z4 | z4
      · right; simpa using z4
      · left; simp; omega
    · rw [n1, z3]
theorem NumI.out {D : List Int} {ok : Bool} {k N : Nat} {E : List Int} {o : Bool} (h : NumI D ok k N E o) (hk : 6 ≤ k) : NumP D ok 0 E false := by
  obtain ⟨h1, h2, h3, h4⟩ := h
  refine ⟨by omega, by omega, by simp, .inl rfl, h3, fun m L m1 m2 e1 e2 => ?_⟩
  obtain ⟨z, z1, z2, z3, z4⟩ := h4 m L m1 m2 e1 e2
  have hp : 128 ^ 6 ≤ 128 ^ k := Nat.pow_le_pow_right (by omega) (by omega)
  have e6 : (128 : Nat) ^ 6 = 4398046511104 := by decide
  have h0 : 1 * 128 ^ k ≤ z * 128 ^ k := Nat.mul_le_mul_right _ (by omega)
  have hz : zigN m ≤ 2000000000001 := by unfold zigN; split <;> omega
  omega
/-- Numbers were read, one after the other. -/
def SeqP (D : List Int) (ok : Bool) (ns : List Int) (D' : List Int) (ok' : Bool) : Prop :=
  (ok' = true → ok = true) ∧ D'.length ≤ D.length ∧
  ∀ ms L, (∀ m ∈ ms, -1000000000000 ≤ m ∧ m ≤ 1000000000000) → ms.length = ns.length → D = pkA ms ++ L → ok = true → ns = ms ∧ D' = L ∧ ok' = true
theorem SeqP.nil (D : List Int) (ok : Bool) : SeqP D ok [] D ok := ⟨id, Nat.le_refl _, fun ms L _ h1 h2 h3 => by
  obtain rfl := List.length_eq_zero_iff.1 h1
  exact ⟨rfl, by simpa [pkA] using h2, h3⟩⟩
theorem SeqP.snoc {D : List Int} {ok : Bool} {ns : List Int} {E : List Int} {o : Bool} (h : SeqP D ok ns E o) {n : Int} {E' : List Int} {o' : Bool} (hn : NumP E o n E' o') : SeqP D ok (ns ++ [n]) E' o' := by
  obtain ⟨h1, h2, h3⟩ := h
  obtain ⟨_, _, n1, _, n2, n3⟩ := hn
  refine ⟨fun h => h1 (n1 h), Nat.le_trans n2 h2, fun ms L hm hl hD hok => ?_⟩
  rcases List.eq_nil_or_concat ms with rfl | ⟨ms', m, rfl⟩
  · simp at hl
  · rw [List.concat_eq_append] at *
    rw [pkA_snoc, List.append_assoc] at hD
    obtain ⟨e1, e2, e3⟩ := h3 ms' _ (fun m hm' => hm m (List.mem_append_left _ hm')) (by simpa using hl) hD hok
    obtain ⟨q1, q2⟩ := hm m (by simp)
    obtain ⟨e4, e5, e6⟩ := n3 m L q1 q2 e2 e3
    exact ⟨by rw [e1, e4], e5, e6⟩
/-- A text of n bytes was read. -/
def NamP (E : List Int) (o : Bool) (n : Nat) (s : ByteArray) (E' : List Int) (o' : Bool) : Prop :=
  s.size ≤ 255 ∧ E'.length ≤ E.length ∧ (o' = true → o = true) ∧ ∀ t L, t.size = n → E = byI t ++ L → o = true → s = t ∧ E' = L ∧ o' = true
theorem byI_inj {s t : ByteArray} (h : byI s = byI t) : s = t := by
  unfold byI at h
  have hf : ∀ (a b : List UInt8), a.map (fun b => (b.toNat : Int)) = b.map (fun b => (b.toNat : Int)) → a = b := by
    intro a
    induction a with
    | nil => intro b h; cases b with
      | nil => rfl
      | cons y ys => simp at h
    | cons x xs ih => intro b h; cases b with
      | nil => simp at h
      | cons y ys =>
        simp only [List.map_cons, List.cons.injEq] at h
        have hx : x = y := UInt8.toNat_inj.1 (by have := h.1; omega)
        rw [ih ys h.2, hx]
  cases s with | mk a => cases t with | mk b =>
    have := hf _ _ h
    simp only at this
    rw [Array.toList_inj.1 this]
theorem byI_ext (s : ByteArray) (a b : Nat) : byI (s.extract a b) = ((byI s).drop a).take (b - a) := by
  unfold byI
  have e : (s.extract a b).data.toList = (s.data.toList.drop a).take (b - a) := by simp [ByteArray.data_extract, Array.toList_extract, List.extract_eq_take_drop]
  rw [e, List.map_take, List.map_drop]
theorem NamP.of {R : ByteArray} {E : List Int} {o : Bool} {n : Nat} (hE : byI R = E) (hn : n ≤ R.size) (h5 : n ≤ 255) {s : ByteArray} {E' : List Int} (hs : byI s = E.take n) (hE' : E' = E.drop n) : NamP E o n s E' o := by
  have hl : E.length = R.size := by rw [← hE]; exact byI_length R
  refine ⟨?_, by rw [hE', List.length_drop]; omega, id, fun t L ht he ho => ?_⟩
  · have := congrArg List.length hs
    rw [byI_length, List.length_take] at this
    omega
  · have e1 : E.take n = byI t := by rw [he, List.take_left' (by rw [byI_length]; exact ht)]
    have e2 : E.drop n = L := by rw [he, List.drop_left' (by rw [byI_length]; exact ht)]
    exact ⟨byI_inj (hs.trans e1), hE'.trans e2, ho⟩
theorem NamP.short {E : List Int} {o : Bool} {n : Nat} (hn : E.length < n) {s : ByteArray} (hs : s.size ≤ 255) : NamP E o n s E false :=
  ⟨hs, Nat.le_refl _, by simp, fun t L ht he _ => by
    have := congrArg List.length he
    rw [List.length_append, byI_length] at this
    omega⟩
/-- A note's name and kind were read. -/
def HedP (D : List Int) (ok : Bool) (s : ByteArray) (k : Nat) (D' : List Int) (ok' : Bool) : Prop :=
  s.size ≤ 255 ∧ k ≤ 255 ∧ (ok' = true → ok = true) ∧ D'.length ≤ D.length ∧
  ∀ y L, ntOk y = true → D = noteB y ++ L → ok = true → s = y.name ∧ (k : Int) = y.kind ∧ D' = pkA (nuL y) ++ L ∧ ok' = true
theorem BytP.hit {E L : List Int} {o : Bool} {c : Nat} {E' : List Int} {o' : Bool} (h : BytP E o c E' o') {b : Int} (he : E = b :: L) (ho : o = true) : (c : Int) = b ∧ E' = L ∧ o' = true := by
  rcases h.2 with ⟨h1, h2⟩ | ⟨_, _, _, h4 | h4⟩
  · rw [he] at h1
    simp only [List.cons.injEq] at h1
    exact ⟨h1.1.symm, h1.2.symm, h2.trans ho⟩
  · rw [he] at h4; cases h4
  · rw [ho] at h4; cases h4
theorem HedP.of {D D1 D2 D3 : List Int} {ok o1 o2 o3 : Bool} {c k : Nat} {s : ByteArray} (h1 : BytP D ok c D1 o1) (h2 : NamP D1 o1 c s D2 o2) (h3 : BytP D2 o2 k D3 o3) : HedP D ok s k D3 o3 := by
  obtain ⟨a1, a2, _⟩ := h1.len
  obtain ⟨b1, b2, _⟩ := h3.len
  obtain ⟨n1, n2, n3, n4⟩ := h2
  refine ⟨n1, h3.1, fun h => a2 (n3 (b2 h)), by omega, fun y L hy he ho => ?_⟩
  unfold noteB at he
  simp only [List.append_assoc, List.cons_append, List.nil_append] at he
  obtain ⟨e1, e2, e3⟩ := h1.hit he ho
  obtain ⟨e4, e5, e6⟩ := n4 y.name _ (by omega) e2 e3
  obtain ⟨e7, e8, e9⟩ := h3.hit e5 e6
  exact ⟨e4, e7, e8, e9⟩
/-- A note was read. -/
def NotP (D : List Int) (ok : Bool) (x : Nt) (D' : List Int) (ok' : Bool) : Prop :=
  x.name.size ≤ 255 ∧ x.terms.length + D'.length ≤ D.length + 1 ∧ (ok' = true → ok = true) ∧ D'.length ≤ D.length ∧
  ∀ y L, ntOk y = true → D = noteB y ++ L → ok = true → x = y ∧ D' = L ∧ ok' = true
/-- So many notes of a list were read, xs, with Z behind the list. -/
def BokP (S : List Int) (o : Bool) (j : Nat) (xs : List Nt) (D : List Int) (ok : Bool) : Prop :=
  ∀ ys Z, validNt ys = true → S = (ys.map noteB).flatten ++ Z → o = true → j ≤ ys.length → xs = ys.take j ∧ D = ((ys.drop j).map noteB).flatten ++ Z ∧ ok = true
theorem BokP.start (S : List Int) (o : Bool) : BokP S o 0 [] S o := fun ys Z _ h ho _ => ⟨by simp, by simpa using h, ho⟩
theorem BokP.step {S : List Int} {o : Bool} {j : Nat} {xs : List Nt} {D : List Int} {ok : Bool} (h : BokP S o j xs D ok) {x : Nt} {D' : List Int} {ok' : Bool} (hx : NotP D ok x D' ok') : BokP S o (j + 1) (xs ++ [x]) D' ok' := fun ys Z hv e ho hj => by
  obtain ⟨h1, h2, h3⟩ := h ys Z hv e ho (by omega)
  have hl : j < ys.length := hj
  have hd := List.drop_eq_getElem_cons hl
  rw [hd, List.map_cons, List.flatten_cons, List.append_assoc] at h2
  obtain ⟨q1, q2, q3⟩ := hx.2.2.2.2 ys[j] _ ((valid_all hv).2 _ (List.getElem_mem hl)) h2 h3
  exact ⟨by rw [h1, q1, List.take_append_getElem hl], q2, q3⟩
/-- The bytes of a packed text. -/
theorem byI_end {ys : List Nt} (hv : validNt ys = true) : byI (endB (bookB ys)) = 78 :: (ys.length : Int) :: ((ys.map noteB).flatten ++ [ckS (bookB ys) 1 / 256, ckS (bookB ys) 1 % 256]) := by
  obtain ⟨b1, b2, b3⟩ := book_bds hv
  obtain ⟨k1, k2⟩ := ckS_bd (bookB ys) 1 b2 (by omega) (by omega)
  unfold endB
  rw [byI_byS]
  · unfold bookB
    simp
  · intro x hx
    rcases List.mem_append.1 hx with h | h
    · exact b2 x h
    · simp only [List.mem_cons, List.not_mem_nil, or_false] at h
      rcases h with rfl | rfl <;> omega
/-- What a packed text is unpacked to. -/
noncomputable def upS (s : ByteArray) : Option (List Nt) := by
  classical
  exact if h : ∃ xs, validNt xs = true ∧ endB (bookB xs) = s then some h.choose else none
theorem upS_some {s : ByteArray} {xs : List Nt} (hu : ∀ ys, validNt ys = true → endB (bookB ys) = s → xs = ys) (hv : validNt xs = true) (he : endB (bookB xs) = s) : upS s = some xs := by
  unfold upS
  have h : ∃ xs, validNt xs = true ∧ endB (bookB xs) = s := ⟨xs, hv, he⟩
  rw [dif_pos h, hu _ h.choose_spec.1 h.choose_spec.2]
theorem upS_none {s : ByteArray} (hn : ∀ ys, validNt ys = true → endB (bookB ys) = s → False) : upS s = none := by
  unfold upS
  rw [dif_neg]
  rintro ⟨ys, h1, h2⟩
  exact hn ys h1 h2
end Go.Proofs.YtpnabggpdgjbmaaGreatDoor
namespace Go.Proofs.YtpnabggpdgjbmaaGreatDoor
open Go.RowKit Go.Sort
theorem nu1 {x : Nt} (h : x.kind = 1) : nuL x = [x.num, x.den] := by unfold nuL; rw [if_pos h]
theorem nu2 {x : Nt} (h : x.kind = 2) : nuL x = (x.terms.length : Int) :: x.terms := by unfold nuL; rw [if_neg (by omega), if_pos h]
theorem nu3 {x : Nt} (h : x.kind = 3) : nuL x = [x.sp, x.sd, x.sq] := by unfold nuL; rw [if_neg (by omega), if_neg (by omega)]
theorem pkA_cons1 (n : Int) (ns : List Int) : pkA (n :: ns) = pkL (zigN n) ++ pkA ns := by simp [pkA]
theorem pkA_app (a b : List Int) : pkA (a ++ b) = pkA a ++ pkA b := by simp [pkA]
theorem termsAll_bd9 : ∀ (ts : List Int) (k : Nat), termsAll k ts = true → ∀ t ∈ ts, -1000000000 ≤ t ∧ t ≤ 1000000000
  | [], _, _, t, ht => by simp at ht
  | x :: xs, k, h, t, ht => by
    have h' : (tmB k x && termsAll (k + 1) xs) = true := h
    rw [Bool.and_eq_true] at h'
    rcases List.mem_cons.1 ht with rfl | ht
    · have h1 := h'.1
      unfold tmB inR at h1
      simp at h1
      split at h1 <;> omega
    · exact termsAll_bd9 xs (k + 1) h'.2 t ht
theorem zT_nil {x : Nt} (h : x.zT = true) : x.terms = [] := by
  unfold Nt.zT at h
  exact List.length_eq_zero_iff.1 (by simpa using h)
theorem zS_zero {x : Nt} (h : x.zS = true) : x.sp = 0 ∧ x.sd = 0 ∧ x.sq = 0 := by
  unfold Nt.zS at h
  simpa using h
theorem zF_zero {x : Nt} (h : x.zF = true) : x.num = 0 ∧ x.den = 0 := by
  unfold Nt.zF at h
  simpa using h
theorem ntOk_1 {x : Nt} (h : ntOk x = true) (hk : x.kind = 1) : (x.terms = [] ∧ x.sp = 0 ∧ x.sd = 0 ∧ x.sq = 0) ∧ ∀ m ∈ [x.num, x.den], -1000000000000 ≤ m ∧ m ≤ 1000000000000 := by
  unfold ntOk at h
  rw [Bool.and_eq_true, if_pos hk, Bool.and_eq_true, Bool.and_eq_true] at h
  obtain ⟨a, b, c, e, _⟩ := fracOk_true.1 h.2.1
  refine ⟨⟨zT_nil h.2.2.1, zS_zero h.2.2.2⟩, fun m hm => ?_⟩
  simp only [List.mem_cons, List.not_mem_nil, or_false] at hm
  rcases hm with rfl | rfl <;> omega
theorem ntOk_2 {x : Nt} (h : ntOk x = true) (hk : x.kind = 2) : (x.num = 0 ∧ x.den = 0 ∧ x.sp = 0 ∧ x.sd = 0 ∧ x.sq = 0) ∧ (1 ≤ x.terms.length ∧ x.terms.length ≤ 60) ∧ ∀ m ∈ x.terms, -1000000000000 ≤ m ∧ m ≤ 1000000000000 := by
  unfold ntOk at h
  rw [Bool.and_eq_true, if_neg (by omega), if_pos hk, Bool.and_eq_true, Bool.and_eq_true] at h
  have h3 := h.2.1
  unfold termsB at h3
  rw [Bool.and_eq_true] at h3
  obtain ⟨l1, l2⟩ := inR_true.1 h3.2
  obtain ⟨f1, f2⟩ := zF_zero h.2.2.1
  refine ⟨⟨f1, f2, zS_zero h.2.2.2⟩, by omega, fun m hm => ?_⟩
  have := termsAll_bd9 _ 0 h3.1 m hm
  omega
theorem ntOk_3 {x : Nt} (h : ntOk x = true) (hk : x.kind = 3) : (x.num = 0 ∧ x.den = 0 ∧ x.terms = []) ∧ ∀ m ∈ [x.sp, x.sd, x.sq], -1000000000000 ≤ m ∧ m ≤ 1000000000000 := by
  unfold ntOk at h
  rw [Bool.and_eq_true, if_neg (by omega), if_neg (by omega), if_pos hk, Bool.and_eq_true, Bool.and_eq_true] at h
  obtain ⟨f1, f2⟩ := zF_zero h.2.2.1
  obtain ⟨a, _, b, c, _⟩ := surdB_true.1 h.2.1
  refine ⟨⟨f1, f2, zT_nil h.2.2.2⟩, fun m hm => ?_⟩
  simp only [List.mem_cons, List.not_mem_nil, or_false] at hm
  rcases hm with rfl | rfl | rfl <;> omega
section
variable {D E D' : List Int} {ok o ok' : Bool} {s : ByteArray}
theorem NotP.one {a b : Int} (h : HedP D ok s 1 E o) (hs : SeqP E o [a, b] D' ok') : NotP D ok ⟨s, 1, a, b, [], 0, 0, 0⟩ D' ok' := by
  obtain ⟨h1, h2, h3, h4, h5⟩ := h
  obtain ⟨s1, s2, s3⟩ := hs
  refine ⟨h1, by simp; omega, fun h => h3 (s1 h), by omega, fun y L hy he ho => ?_⟩
  obtain ⟨e1, e2, e3, e4⟩ := h5 y L hy he ho
  have hk : y.kind = 1 := by omega
  obtain ⟨⟨z1, z2, z3, z4⟩, hb⟩ := ntOk_1 hy hk
  rw [nu1 hk] at e3
  obtain ⟨q1, q2, q3⟩ := s3 _ L hb (by simp) e3 e4
  simp only [List.cons.injEq, and_true] at q1
  refine ⟨?_, q2, q3⟩
  rw [e1, q1.1, q1.2, ← hk, ← z1, ← z2]
  cases y
  simp only at z1 z2 z3 z4 ⊢
  rw [z3, z4, z2]
theorem NotP.three {a b c : Int} (h : HedP D ok s 3 E o) (hs : SeqP E o [a, b, c] D' ok') : NotP D ok ⟨s, 3, 0, 0, [], a, b, c⟩ D' ok' := by
  obtain ⟨h1, h2, h3, h4, h5⟩ := h
  obtain ⟨s1, s2, s3⟩ := hs
  refine ⟨h1, by simp; omega, fun h => h3 (s1 h), by omega, fun y L hy he ho => ?_⟩
  obtain ⟨e1, e2, e3, e4⟩ := h5 y L hy he ho
  have hk : y.kind = 3 := by omega
  obtain ⟨⟨z1, z2, z3⟩, hb⟩ := ntOk_3 hy hk
  rw [nu3 hk] at e3
  obtain ⟨q1, q2, q3⟩ := s3 _ L hb (by simp) e3 e4
  simp only [List.cons.injEq, and_true] at q1
  refine ⟨?_, q2, q3⟩
  rw [e1, q1.1, q1.2.1, q1.2.2]
  cases y
  simp only at z1 z2 z3 hk ⊢
  rw [z1, z2, z3, hk]
theorem NotP.two {n : Int} {E1 : List Int} {o1 : Bool} {ts : List Int} (h : HedP D ok s 2 E o) (hn : NumP E o n E1 o1) (hs : SeqP E1 o1 ts D' ok') (hl : ts.length + D'.length ≤ E1.length + 1) (h1 : (ts.length : Int) ≤ n ∨ ts.length = 0) (h2 : n ≤ ts.length ∨ ok' = false) :
    NotP D ok ⟨s, 2, 0, 0, ts, 0, 0, 0⟩ D' ok' := by
  obtain ⟨g1, g2, g3, g4, g5⟩ := h
  obtain ⟨_, _, n3, _, n5, n6⟩ := hn
  obtain ⟨s1, s2, s3⟩ := hs
  refine ⟨g1, by simp; omega, fun h => g3 (n3 (s1 h)), by omega, fun y L hy he ho => ?_⟩
  obtain ⟨e1, e2, e3, e4⟩ := g5 y L hy he ho
  have hk : y.kind = 2 := by omega
  obtain ⟨⟨z1, z2, z3, z4, z5⟩, ⟨l1, l2⟩, hb⟩ := ntOk_2 hy hk
  rw [nu2 hk, pkA_cons1, List.append_assoc] at e3
  obtain ⟨q1, q2, q3⟩ := n6 (y.terms.length : Int) _ (by omega) (by omega) e3 e4
  have hle : ts.length ≤ y.terms.length := by omega
  have e5 : E1 = pkA (y.terms.take ts.length) ++ (pkA (y.terms.drop ts.length) ++ L) := by
    rw [q2, ← List.append_assoc, ← pkA_app, List.take_append_drop]
  obtain ⟨r1, r2, r3⟩ := s3 _ _ (fun m hm => hb m (List.mem_of_mem_take hm)) (by rw [List.length_take]; omega) e5 q3
  have hge : y.terms.length ≤ ts.length := by
    rcases h2 with h2 | h2
    · omega
    · rw [r3] at h2; cases h2
  have hT : ts = y.terms := by rw [r1, List.take_of_length_le (by omega)]
  refine ⟨?_, by rw [r2, List.drop_of_length_le hge]; simp [pkA], r3⟩
  rw [e1, hT]
  cases y
  simp only at z1 z2 z3 z4 z5 hk ⊢
  rw [z1, z2, z3, z4, z5, hk]
theorem NotP.other {k : Nat} {x : Nt} (h : HedP D ok s k E o) (hk : k ≠ 1 ∧ k ≠ 2 ∧ k ≠ 3) (h1 : x.name.size ≤ 255) (h2 : x.terms.length = 0) (h3 : ok' = true → o = true) (h4 : D'.length ≤ E.length) : NotP D ok x D' ok' := by
  obtain ⟨g1, g2, g3, g4, g5⟩ := h
  refine ⟨h1, by omega, fun h => g3 (h3 h), by omega, fun y L hy he ho => ?_⟩
  obtain ⟨e1, e2, e3, e4⟩ := g5 y L hy he ho
  have := (ntOk_bds hy).2
  omega
theorem NotP.fail {c : Nat} {D1 : List Int} {o1 : Bool} (hb : BytP D ok c D1 o1) (h : o1 = false ∨ D1.length < c) : NotP D ok ⟨⟨#[]⟩, 0, 0, 0, [], 0, 0, 0⟩ D1 false := by
  obtain ⟨b1, b2, b3⟩ := hb.len
  refine ⟨Nat.zero_le _, by simp; omega, by simp, b1, fun y L hy he ho => ?_⟩
  unfold noteB at he
  simp only [List.append_assoc, List.cons_append, List.nil_append] at he
  obtain ⟨e1, e2, e3⟩ := hb.hit he ho
  rcases h with h | h
  · rw [h] at e3; cases e3
  · have := congrArg List.length e2
    rw [List.length_append, byI_length] at this
    omega
end
end Go.Proofs.YtpnabggpdgjbmaaGreatDoor
namespace Go.Proofs.YtpnabggpdgjbmaaGreatDoor
open Go.RowKit Go.Sort
theorem toList_inj {a b : ByteArray} (h : a.toList = b.toList) : a = b := by
  rw [ByteArray.toList_eq, ByteArray.toList_eq] at h
  obtain ⟨⟨x⟩⟩ := a
  obtain ⟨⟨y⟩⟩ := b
  simp at h
  rw [h]
end Go.Proofs.YtpnabggpdgjbmaaGreatDoor
namespace Go.Proofs.YtpnabggpdgjbmaaGreatDoor
open Go.RowKit Go.Sort
/-- A source: its head, its period, how much each term of the period grows. -/
structure So where
  hd : List Int
  pd : List Int
  gr : List Int
end Go.Proofs.YtpnabggpdgjbmaaGreatDoor
namespace Go.Proofs.YtpnabggpdgjbmaaGreatDoor
open Go.RowKit Go.Sort
/-- The block of a row of terms has an owner of its own, and lies below top. -/
def OwnT (own : Nat → Nat) (top k : Nat) (T : Option Addr) (n : Nat) : Prop := ∀ t o i, T = some ⟨t, o, i⟩ → 0 < n → own t = k ∧ t < top
/-- A slice of notes in blocks of its own, from base on and below top, no two of which are the same. -/
def WrNd (w : World) (base top : Nat) (A : Option Addr) (xs : List Nt) : Prop :=
  top ≤ w.heap.size ∧ (0 < xs.length → ∃ (b off : Nat) (own : Nat → Nat), A = some ⟨b, off, none⟩ ∧ base ≤ b ∧ b < top ∧ (∀ j, w.frozen? ⟨b, j, none⟩ = false) ∧ own b = 0 ∧
    ∀ j x, xs[j]? = some x → ∃ T c, RowAt w b (off + j * 8) (ntC x T c) ∧ WrT w base T c x.terms ∧ OwnT own top (j + 1) T x.terms.length)
theorem WrNd.rd {w : World} {base top : Nat} {A : Option Addr} {xs : List Nt} (h : WrNd w base top A xs) : RdNt w top A xs := fun hn => by
  obtain ⟨b, off, own, e, _, h2, _, _, hc⟩ := h.2 hn
  refine ⟨b, off, e, h2, fun j x hx => ?_⟩
  obtain ⟨T, c, r, t, o⟩ := hc j x hx
  refine ⟨T, c, r, ⟨fun hp => ?_, t.2⟩⟩
  obtain ⟨tb, tq, e2, _, _, h5, _⟩ := t.1 hp
  exact ⟨tb, tq, e2, (o _ _ _ e2 hp).2, h5⟩
theorem Wr.of_blocks {α : Type} {enc : α → Value} {A : Option Addr} {xs : List α} {B : Nat} {w w' : World} (hw : Wr enc w B A xs) (hs : w.heap.size ≤ w'.heap.size) (hk : ∀ t o i, A = some ⟨t, o, i⟩ → 0 < xs.length → t < w.heap.size → w'.heap[t]? = w.heap[t]?) : Wr enc w' B A xs := fun hn => by
  obtain ⟨b, off, e, h1, h2, hc, hf⟩ := hw hn
  have hb := hk b off none e hn h2
  exact ⟨b, off, e, h1, by omega, fun j x hx => (World.cell?_of_block (a := ⟨b, off + j, none⟩) hb).trans (hc j x hx), fun j => by have := hf j; simpa only [World.frozen?, hb] using this⟩
theorem WrNd.more {w : World} {base base' top : Nat} {A : Option Addr} {xs : List Nt} (h : WrNd w base top A xs) (hb : base' ≤ base) : WrNd w base' top A xs := by
  refine ⟨h.1, fun hn => ?_⟩
  obtain ⟨b, off, own, e, h1, h2, hf, h3, hc⟩ := h.2 hn
  refine ⟨b, off, own, e, by omega, h2, hf, h3, fun j x hx => ?_⟩
  obtain ⟨T, c, r, t, o⟩ := hc j x hx
  exact ⟨T, c, r, t.more hb, o⟩
end Go.Proofs.YtpnabggpdgjbmaaGreatDoor
namespace Go.Proofs.YtpnabggpdgjbmaaGreatDoor
open Go.RowKit Go.Sort
/-- A note and where its terms lie. -/
structure NtR where
  x : Nt
  T : Option Addr
  c : Nat
def NtR.cells (r : NtR) : List Value := ntC r.x r.T r.c
def flatR (rs : List NtR) : List Value := rs.flatMap NtR.cells
theorem flatR_length : ∀ rs : List NtR, (flatR rs).length = rs.length * 8
  | [] => rfl
  | r :: rs => by
    have := flatR_length rs
    unfold flatR at this ⊢
    rw [List.flatMap_cons, List.length_append, this]
    show 8 + _ = (rs.length + 1) * 8
    omega
theorem flatR_append (a b : List NtR) : flatR (a ++ b) = flatR a ++ flatR b := by unfold flatR; exact List.flatMap_append
theorem flatR_one (r : NtR) : flatR [r] = r.cells := by simp [flatR]
theorem flatR_get : ∀ (rs : List NtR) (j : Nat) (r : NtR) (m : Nat) (v : Value), rs[j]? = some r → r.cells[m]? = some v → (flatR rs)[j * 8 + m]? = some v
  | [], _, _, _, _, h, _ => by simp at h
  | q :: rs, 0, r, m, v, h, hv => by
    simp at h
    subst h
    have hm : m < q.cells.length := (List.getElem?_eq_some_iff.1 hv).1
    show (q.cells ++ flatR rs)[0 * 8 + m]? = _
    rw [Nat.zero_mul, Nat.zero_add, List.getElem?_append_left hm]
    exact hv
  | q :: rs, j + 1, r, m, v, h, hv => by
    have h8 : q.cells.length = 8 := rfl
    show (q.cells ++ flatR rs)[(j + 1) * 8 + m]? = _
    rw [List.getElem?_append_right (by rw [h8]; omega), h8, show (j + 1) * 8 + m - 8 = j * 8 + m by omega]
    exact flatR_get rs j r m v (by simpa using h) hv
theorem flatR_at : ∀ (rs : List NtR) (i : Nat) (v : Value), (flatR rs)[i]? = some v → ∃ r, rs[i / 8]? = some r ∧ r.cells[i % 8]? = some v := fun rs i v h => by
  have hi : i < rs.length * 8 := by rw [← flatR_length]; exact (List.getElem?_eq_some_iff.1 h).1
  have hj : i / 8 < rs.length := by omega
  obtain ⟨r, hr⟩ : ∃ r, rs[i / 8]? = some r := ⟨_, List.getElem?_eq_getElem hj⟩
  have h8 : r.cells.length = 8 := rfl
  obtain ⟨u, hu⟩ : ∃ u, r.cells[i % 8]? = some u := ⟨_, List.getElem?_eq_getElem (by rw [h8]; omega)⟩
  have := flatR_get rs _ r _ u hr hu
  rw [show i / 8 * 8 + i % 8 = i by omega, h] at this
  exact ⟨r, hr, by rw [hu]; exact this.symm⟩
theorem rows_of {P : Nat → NtR → Prop} : ∀ (xs : List Nt), (∀ j x, xs[j]? = some x → ∃ r : NtR, r.x = x ∧ P j r) → ∃ rs : List NtR, rs.map NtR.x = xs ∧ ∀ j r, rs[j]? = some r → P j r := by
  intro xs
  induction xs generalizing P with
  | nil => exact fun _ => ⟨[], rfl, fun _ _ h => by simp at h⟩
  | cons x xs ih =>
    intro h
    obtain ⟨r, hr, hp⟩ := h 0 x rfl
    obtain ⟨rs, h1, h2⟩ := ih (P := fun j => P (j + 1)) (fun j y hy => h (j + 1) y hy)
    refine ⟨r :: rs, by simp [hr, h1], fun j q hq => ?_⟩
    cases j with
    | zero => simp at hq; subst hq; exact hp
    | succ j => exact h2 j q (by simpa using hq)
/-- A slice that reads as these rows. -/
def RdR (w : World) (B : Nat) (A : Option Addr) (rs : List NtR) : Prop :=
  0 < rs.length → ∃ b off, A = some ⟨b, off, none⟩ ∧ b < B ∧ ∀ j r, rs[j]? = some r → RowAt w b (off + j * 8) r.cells ∧ RdT w B r.T r.c r.x.terms
theorem RdNt.rows {w : World} {B : Nat} {A : Option Addr} {xs : List Nt} (h : RdNt w B A xs) : ∃ rs : List NtR, rs.map NtR.x = xs ∧ RdR w B A rs := by
  rcases Nat.eq_zero_or_pos xs.length with h0 | h0
  · exact ⟨[], by rw [List.eq_nil_of_length_eq_zero h0]; rfl, fun h => absurd h (by simp)⟩
  · obtain ⟨b, off, e, hlt, hc⟩ := h h0
    obtain ⟨rs, h1, h2⟩ := rows_of (P := fun j r => RowAt w b (off + j * 8) r.cells ∧ RdT w B r.T r.c r.x.terms) xs (fun j x hx => by
      obtain ⟨T, c, a1, a2⟩ := hc j x hx
      exact ⟨⟨x, T, c⟩, rfl, a1, a2⟩)
    exact ⟨rs, h1, fun _ => ⟨b, off, e, hlt, h2⟩⟩
theorem RdR.nt {w : World} {B : Nat} {A : Option Addr} {rs : List NtR} (h : RdR w B A rs) : RdNt w B A (rs.map NtR.x) := fun hn => by
  obtain ⟨b, off, e, hlt, hc⟩ := h (by simpa using hn)
  refine ⟨b, off, e, hlt, fun j x hx => ?_⟩
  rw [List.getElem?_map] at hx
  obtain ⟨r, hr, rfl⟩ := Option.map_eq_some_iff.1 hx
  obtain ⟨a1, a2⟩ := hc j r hr
  exact ⟨r.T, r.c, a1, a2⟩
theorem RdR.below {w w' : World} {B : Nat} {A : Option Addr} {rs : List NtR} (h : RdR w B A rs) (hb : Below B w w') : RdR w' B A rs := fun hn => by
  obtain ⟨b, off, e, hlt, hc⟩ := h hn
  refine ⟨b, off, e, hlt, fun j r hr => ?_⟩
  obtain ⟨h1, h3⟩ := hc j r hr
  exact ⟨h1.below hb hlt, h3.below hb⟩
theorem RdR.more {w : World} {B B' : Nat} {A : Option Addr} {rs : List NtR} (h : RdR w B A rs) (hB : B ≤ B') : RdR w B' A rs := fun hn => by
  obtain ⟨b, off, e, hlt, hc⟩ := h hn
  refine ⟨b, off, e, by omega, fun j r hr => ?_⟩
  obtain ⟨h1, h3⟩ := hc j r hr
  exact ⟨h1, h3.more hB⟩
theorem RdR.next {w w' : World} {A : Option Addr} {rs : List NtR} (h : RdR w w.heap.size A rs) (hb : Below w.heap.size w w') : RdR w' w'.heap.size A rs := (h.below hb).more hb.size
/-- A slice of notes on its way: its own row, and the blocks of its terms. -/
structure OutNt (w : World) (base : Nat) (rs : List NtR) (own : Nat → Nat) (v : Value) (W : World) : Prop where
  row : W.ownsRow base 31 8 v rs.length (flatR rs)
  ts : ∀ j r, rs[j]? = some r → WrT W base r.T r.c r.x.terms ∧ OwnT own W.heap.size (j + 1) r.T r.x.terms.length
  own0 : ∀ g, v.ownBlock = some g → own g = 0
  bel : Below w.heap.size w W
  low : w.heap.size ≤ base
  hi : base ≤ W.heap.size
theorem OutNt.next {w : World} {base : Nat} {rs : List NtR} {own : Nat → Nat} {v : Value} {W W' : World} (h : OutNt w base rs own v W) (hb : Below W.heap.size W W') : OutNt w base rs own v W' :=
  ⟨own_below h.row hb, fun j r hr => ⟨(h.ts j r hr).1.below hb, fun t o i e hn => ⟨((h.ts j r hr).2 t o i e hn).1, Nat.lt_of_lt_of_le ((h.ts j r hr).2 t o i e hn).2 hb.size⟩⟩, h.own0, ext_trans h.bel hb, h.low, Nat.le_trans h.hi hb.size⟩
theorem OutNt.start (w : World) : OutNt w w.heap.size [] (fun _ => 0) (.slice none 0 0) w :=
  ⟨own_nil, fun _ _ h => by simp at h, fun _ _ => rfl, Below.refl _ _, Nat.le_refl _, Nat.le_refl _⟩
theorem OutNt.start0 (w : World) : OutNt w w.heap.size [] (fun _ => 0) (.slice (some ⟨w.heap.size, 0, none⟩) 0 0) (w.alloc (.cells #[] 31)) := by
  have h := World.ownsRow_lit (base := w.heap.size) (e := 31) (size := 8) w #[] 0 (Nat.le_refl _) (by simp) rfl
  exact ⟨by simpa [flatR] using h, fun _ _ h => by simp at h, fun _ _ => rfl, ext1 _ _, Nat.le_refl _, by simp⟩
theorem WrT.grown {w w' : World} {base : Nat} {T : Option Addr} {c : Nat} {xs : List Int} {row : Option Nat} (h : WrT w base T c xs) (hg : w.grownBy w' row) (hn : ∀ t o i, T = some ⟨t, o, i⟩ → 0 < xs.length → some t ≠ row) : WrT w' base T c xs :=
  ⟨Wr.of_blocks h.1 hg.size fun t o i e hp hlt => hg.block t hlt (hn t o i e hp), h.2⟩
/-- One more note: its terms are new, the row grows. -/
theorem OutNt.push {w : World} {base : Nat} {rs : List NtR} {own : Nat → Nat} {v : Value} {W W2 W2a w3 : World} (h : OutNt w base rs own v W) {x : Nt} {T : Option Addr} {c : Nat} (hb2 : Below W.heap.size W W2) (hT : WrT W2 W.heap.size T c x.terms) (hb2a : Below W2.heap.size W2 W2a)
    {g cap : Nat} (hown3 : w3.ownsRow base 31 8 (.slice (some ⟨g, 0, none⟩) (rs.length + 1) cap) (rs.length + 1) (flatR rs ++ ntC x T c)) (hg : W2a.grownBy w3 v.ownBlock) (hat : v.ownBlock = some g ∨ g = W2a.heap.size) :
    OutNt w base (rs ++ [⟨x, T, c⟩]) (fun t => if W2.heap.size ≤ t then 0 else if W.heap.size ≤ t then rs.length + 1 else own t) (.slice (some ⟨g, 0, none⟩) (rs.length + 1) cap) w3 := by
  have hV := fun k hk => h.row.lt k hk
  have s1 := hb2.size
  have s2 := hb2a.size
  have s3 := hg.size
  refine ⟨by rw [flatR_append, flatR_one, List.length_append]; exact hown3, fun j r hr => ?_, fun g' e => ?_, below_grown (ext_trans (ext_trans h.bel hb2) hb2a) (own_below (own_below h.row hb2) hb2a) h.low hg, h.low, by have := h.hi; omega⟩
  · rcases Nat.lt_or_ge j rs.length with hj | hj
    · rw [List.getElem?_append_left hj] at hr
      obtain ⟨t1, t2⟩ := h.ts j r hr
      refine ⟨((t1.below hb2).below hb2a).grown hg fun t o i e hn e2 => ?_, fun t o i e hn => ?_⟩
      · have h1 := (t2 t o i e hn).1
        have h2 := h.own0 t e2.symm
        omega
      · obtain ⟨q1, q2⟩ := t2 t o i e hn
        refine ⟨?_, by omega⟩
        show (if _ then _ else _) = _
        rw [if_neg (by omega), if_neg (by omega)]
        exact q1
    · have hj2 : j = rs.length := by
        have := (List.getElem?_eq_some_iff.1 hr).1
        simp at this
        omega
      subst hj2
      rw [List.getElem?_append_right (Nat.le_refl _), Nat.sub_self] at hr
      simp at hr
      subst hr
      have hlo : ∀ t o i, T = some ⟨t, o, i⟩ → 0 < x.terms.length → W.heap.size ≤ t ∧ t < W2.heap.size := fun t o i e hn => by
        obtain ⟨tb, tq, e2, q1, q2, _⟩ := hT.1 hn
        rw [e] at e2
        injection e2 with e2
        injection e2 with e2
        subst e2
        exact ⟨q1, q2⟩
      refine ⟨(((hT.below hb2a).grown hg fun t o i e hn e2 => ?_).more h.hi), fun t o i e hn => ?_⟩
      · have := (hV t e2.symm).2
        have := (hlo t o i e hn).1
        omega
      · obtain ⟨q1, q2⟩ := hlo t o i e hn
        refine ⟨?_, by omega⟩
        show (if _ then _ else _) = _
        rw [if_neg (by omega), if_pos q1]
  · have eg : g = g' := by
      have : some g = some g' := e
      injection this
    subst eg
    show (if _ then _ else _) = _
    rcases hat with e2 | e2
    · have := (hV g e2).2
      rw [if_neg (by omega), if_neg (by omega)]
      exact h.own0 g e2
    · rw [if_pos (by omega)]
theorem OutNt.wr {w : World} {base : Nat} {rs : List NtR} {own : Nat → Nat} {v : Value} {W : World} (h : OutNt w base rs own v W) : ∃ A c, v = .slice A (rs.map NtR.x).length c ∧ WrNd W base W.heap.size A (rs.map NtR.x) := by
  rcases h.row.2 with ⟨rfl, h0⟩ | ⟨g, cap, cur, rfl, hg, hh, hc, hm, hs, ht⟩
  · exact ⟨none, 0, by simp [h0], Nat.le_refl _, fun hn => by simp [h0] at hn⟩
  · have hlt : g < W.heap.size := (Array.getElem?_eq_some_iff.1 hh).1
    refine ⟨some ⟨g, 0, none⟩, cap, by simp, Nat.le_refl _, fun _ => ⟨g, 0, own, rfl, hg, hlt, fun j => by simp [World.frozen?, hh], h.own0 g rfl, fun j x hx => ?_⟩⟩
    rw [List.getElem?_map] at hx
    obtain ⟨r, hr, rfl⟩ := Option.map_eq_some_iff.1 hx
    obtain ⟨t1, t2⟩ := h.ts j r hr
    refine ⟨r.T, r.c, fun m u hu => ?_, t1, t2⟩
    have := h.row.cells (g := g) rfl _ _ (flatR_get rs j r m u hr hu)
    have ea : (⟨g, 0, none⟩ : Addr).add (j * 8 + m) = ⟨g, 0 + j * 8 + m, none⟩ := by
      unfold Addr.add
      by_cases hj : j * 8 + m = 0 <;> simp [hj] <;> omega
    rw [ea] at this
    exact this
theorem news_rowN (w : World) {C : Array Value} (T : TypeId) (vs : List Value) (h : C.toList = vs) : ∀ j u, vs[j]? = some u → (w.alloc (.cells C T)).cell? ((⟨w.heap.size, 0, none⟩ : Addr).add j) = some u := fun j u hu => by
  have ea : (⟨w.heap.size, 0, none⟩ : Addr).add j = ⟨w.heap.size, 0 + j, none⟩ := by
    unfold Addr.add
    by_cases hj : j = 0 <;> simp [hj]
  rw [ea, Nat.zero_add, cell_one, ← Array.getElem?_toList, h]
  exact hu
end Go.Proofs.YtpnabggpdgjbmaaGreatDoor
namespace Go.Proofs.YtpnabggpdgjbmaaGreatDoor
open Go.RowKit Go.Sort
/-- What returns a slice of notes and a code. -/
def RetNtL (w : World) (xs : List Nt) (code : Int) (e : Ending) (w' : World) : Prop := ∃ A c, e = .returned (.tuple #[.slice A xs.length c, .int .i64 code]) ∧ WrNd w' w.heap.size w'.heap.size A xs ∧ Below w.heap.size w w'
theorem RetNtL.nil_ {w w' : World} (code : Int) (h : Below w.heap.size w w') : RetNtL w [] code (.returned (.tuple #[.slice none 0 0, .int .i64 code])) w' :=
  ⟨none, 0, rfl, ⟨Nat.le_refl _, fun h => absurd h (by simp)⟩, h⟩
theorem OutNt.retL {w w0 W : World} {base : Nat} {rs : List NtR} {own : Nat → Nat} {v : Value} (h : OutNt w0 base rs own v W) (hb : Below w.heap.size w w0) (code : Int) {xs : List Nt} (hx : rs.map NtR.x = xs) : RetNtL w xs code (.returned (.tuple #[v, .int .i64 code])) W := by
  subst hx
  obtain ⟨A, c, rfl, hw⟩ := h.wr
  exact ⟨A, c, rfl, hw.more (Nat.le_trans hb.size h.low), ext_trans hb h.bel⟩
theorem OutNt.form {w0 W : World} {base : Nat} {rs : List NtR} {own : Nat → Nat} {v : Value} (h : OutNt w0 base rs own v W) (hn : 0 < rs.length) : ∃ g cap, v = .slice (some ⟨g, 0, none⟩) rs.length cap := by
  rcases h.row.2 with ⟨rfl, h0⟩ | ⟨g, cap, cur, rfl, _⟩
  · omega
  · exact ⟨g, cap, rfl⟩
section
variable {w W W' : World} {b3 b4 b5 : Nat} {A0 A1 : Option Addr} {ys gs hs : List Nt}
end
end Go.Proofs.YtpnabggpdgjbmaaGreatDoor
