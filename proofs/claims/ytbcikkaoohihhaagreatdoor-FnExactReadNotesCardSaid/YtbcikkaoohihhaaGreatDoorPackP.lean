/- The bytes of a notebook: the plain law. No condition but those that each theorem names. -/
import Derived.Test.YtbcikkaoohihhaaGreatDoorMrD
import Derived.Test.YtbcikkaoohihhaaGreatDoorValidNotesW
import Derived.Lib.AppendStr
namespace Go.Proofs.YtbcikkaoohihhaaGreatDoor
open Go.RowKit Go.Sort

/-- A list of numbers, packed. -/
def pkA (ns : List Int) : List Int := (ns.map fun n => pkL (zigN n)).flatten
theorem pkA_snoc (ns : List Int) (n : Int) : pkA (ns ++ [n]) = pkA ns ++ pkL (zigN n) := by simp [pkA]
/-- A note's bytes. -/
def noteB (x : Nt) : List Int := [(x.name.size : Int)] ++ byI x.name ++ [x.kind] ++ pkA (nuL x)
/-- A notebook's bytes. -/
def bookB (xs : List Nt) : List Int := [78, (xs.length : Int)] ++ (xs.map noteB).flatten
theorem pkL_byte : ∀ (k z : Nat), z ≤ k → ∀ b ∈ pkL z, 0 ≤ b ∧ b ≤ 255
  | 0, z, hk, b, hb => by
    rw [pkL_small (by omega)] at hb
    simp only [List.mem_cons, List.not_mem_nil, or_false] at hb
    omega
  | k + 1, z, hk, b, hb => by
    by_cases h : 128 ≤ z
    · rw [pkL_big h] at hb
      rcases List.mem_cons.1 hb with rfl | hb
      · omega
      · exact pkL_byte k (z / 128) (by omega) b hb
    · rw [pkL_small h] at hb
      simp only [List.mem_cons, List.not_mem_nil, or_false] at hb
      omega
theorem pkA_byte {ns : List Int} : ∀ b ∈ pkA ns, 0 ≤ b ∧ b ≤ 255 := by
  intro b hb
  unfold pkA at hb
  obtain ⟨l, hl, hb⟩ := List.mem_flatten.1 hb
  obtain ⟨n, _, rfl⟩ := List.mem_map.1 hl
  exact pkL_byte _ _ (Nat.le_refl _) b hb
theorem byI_byte {s : ByteArray} : ∀ b ∈ byI s, 0 ≤ b ∧ b ≤ 255 := by
  intro b hb
  unfold byI at hb
  obtain ⟨c, _, rfl⟩ := List.mem_map.1 hb
  have := c.toNat_lt
  omega
theorem noteB_byte {x : Nt} (h1 : x.name.size ≤ 255) (h2 : 0 ≤ x.kind ∧ x.kind ≤ 255) : ∀ b ∈ noteB x, 0 ≤ b ∧ b ≤ 255 := by
  intro b hb
  unfold noteB at hb
  simp only [List.mem_append, List.mem_cons, List.not_mem_nil, or_false] at hb
  rcases hb with ((rfl | hb) | rfl) | hb
  · omega
  · exact byI_byte b hb
  · exact h2
  · exact pkA_byte b hb
theorem bookB_byte {xs : List Nt} (hl : xs.length ≤ 255) (h : ∀ x ∈ xs, x.name.size ≤ 255 ∧ 0 ≤ x.kind ∧ x.kind ≤ 255) : ∀ b ∈ bookB xs, 0 ≤ b ∧ b ≤ 255 := by
  intro b hb
  unfold bookB at hb
  simp only [List.mem_append, List.mem_cons, List.not_mem_nil, or_false] at hb
  rcases hb with (rfl | rfl) | hb
  · omega
  · omega
  · obtain ⟨l, hl, hb⟩ := List.mem_flatten.1 hb
    obtain ⟨x, hx, rfl⟩ := List.mem_map.1 hl
    obtain ⟨h1, h2⟩ := h x hx
    exact noteB_byte h1 h2 b hb
theorem book_step {xs : List Nt} {k : Nat} {x : Nt} (h : xs[k]? = some x) : ((xs.take (k + 1)).map noteB).flatten = ((xs.take k).map noteB).flatten ++ noteB x := by
  rw [List.take_add_one, h]
  simp
theorem strCells_byI (s : ByteArray) : Go.Lib.strCells s = (byI s).map (Value.int .u8) := by
  unfold Go.Lib.strCells byI
  simp
/-- What a note that is sound has. -/
theorem ntOk_bds {x : Nt} (h : ntOk x = true) : x.name.size ≤ 12 ∧ (x.kind = 1 ∨ x.kind = 2 ∨ x.kind = 3) := by
  unfold ntOk nameB at h
  simp only [Bool.and_eq_true, decide_eq_true_iff] at h
  refine ⟨h.1.2.1, ?_⟩
  by_cases h1 : x.kind = 1
  · exact .inl h1
  · by_cases h2 : x.kind = 2
    · exact .inr (.inl h2)
    · by_cases h3 : x.kind = 3
      · exact .inr (.inr h3)
      · simp [h1, h2, h3] at h
theorem OutB.next {w : World} {base : Nat} {out : List Int} {v : Value} {wr w' : World} (h : OutB w base out v wr) (hb : Below wr.heap.size wr w') : OutB w base out v w' :=
  ⟨own_below h.1 hb, ext_trans h.2.1 hb, Nat.le_trans h.2.2 hb.size⟩
/-- Behind an append of many bytes; the world may have grown since (hb) ahead of it. -/
theorem OutB.pushL {w : World} {base : Nat} {out : List Int} {v : Value} {wr W1 : World} (h : OutB w base out v wr) (hbase : w.heap.size ≤ base) (hb : Below wr.heap.size wr W1) (news : List Int) (m : Nat) (v' : Value) (w3 : World)
    (hm : m = news.length) (hown3 : w3.ownsRow base 5 1 v' (out.length + m) (out.map (Value.int .u8) ++ news.map (Value.int .u8))) (hg : W1.grownBy w3 v.ownBlock) : OutB w base (out ++ news) v' w3 := by
  have h1 := h.next hb
  refine ⟨?_, below_grown h1.2.1 h1.1 hbase hg, Nat.le_trans h1.2.2 hg.size⟩
  rw [List.length_append, List.map_append, ← hm]
  exact hown3
/-- The row as a slice of its own. -/
theorem OutB.slice {w : World} {base : Nat} {out : List Int} {v : Value} {wr : World} (h : OutB w base out v wr) : ∃ A c, v = .slice A out.length c ∧ Wr (Value.int .u8) wr base A out := (Wr.of_own h.1).2
theorem pkA_length {ns : List Int} (h : ∀ n ∈ ns, -1000000000000000 ≤ n ∧ n ≤ 1000000000000000) : (pkA ns).length ≤ 10 * ns.length := by
  induction ns with
  | nil => simp [pkA]
  | cons n ns ih =>
    have h1 := pkL_zig (h n (by simp)).1 (h n (by simp)).2
    have h2 := ih (fun m hm => h m (by simp [hm]))
    have e : pkA (n :: ns) = pkL (zigN n) ++ pkA ns := by simp [pkA]
    rw [e, List.length_append, List.length_cons]
    omega
theorem noteB_length {x : Nt} (h1 : x.name.size ≤ 12) (h2 : ∀ n ∈ nuL x, -1000000000000000 ≤ n ∧ n ≤ 1000000000000000) (h3 : (nuL x).length ≤ 61) : (noteB x).length ≤ 700 := by
  have h4 := pkA_length h2
  have h5 := byI_length x.name
  unfold noteB
  simp only [List.length_append, List.length_cons, List.length_nil]
  omega
theorem books_length {xs : List Nt} (h : ∀ x ∈ xs, (noteB x).length ≤ 700) : ((xs.map noteB).flatten).length ≤ 700 * xs.length := by
  induction xs with
  | nil => simp
  | cons x xs ih =>
    have h1 := h x (by simp)
    have h2 := ih (fun y hy => h y (by simp [hy]))
    simp only [List.map_cons, List.flatten_cons, List.length_append, List.length_cons]
    omega
theorem termsAll_bd : ∀ (ts : List Int) (k : Nat), termsAll k ts = true → ∀ t ∈ ts, -1000000000000000 ≤ t ∧ t ≤ 1000000000000000
  | [], _, _, t, ht => by simp at ht
  | x :: xs, k, h, t, ht => by
    have h' : (tmB k x && termsAll (k + 1) xs) = true := h
    rw [Bool.and_eq_true] at h'
    rcases List.mem_cons.1 ht with rfl | ht
    · have h1 := h'.1
      unfold tmB inR at h1
      simp at h1
      omega
    · exact termsAll_bd xs (k + 1) h'.2 t ht
theorem ntOk_nu {x : Nt} (h : ntOk x = true) : (∀ n ∈ nuL x, -1000000000000000 ≤ n ∧ n ≤ 1000000000000000) ∧ (nuL x).length ≤ 61 := by
  unfold ntOk at h
  rw [Bool.and_eq_true] at h
  have h := h.2
  unfold nuL
  by_cases h1 : x.kind = 1
  · rw [if_pos h1] at h ⊢
    rw [Bool.and_eq_true] at h
    obtain ⟨a, b, c, e, _⟩ := fracOk_true.1 h.1
    refine ⟨fun n hn => ?_, by simp⟩
    simp only [List.mem_cons, List.not_mem_nil, or_false] at hn
    rcases hn with rfl | rfl <;> omega
  · rw [if_neg h1] at h ⊢
    by_cases h2 : x.kind = 2
    · rw [if_pos h2] at h ⊢
      rw [Bool.and_eq_true] at h
      have h3 := h.1
      unfold termsB at h3
      rw [Bool.and_eq_true] at h3
      obtain ⟨l1, l2⟩ := inR_true.1 h3.2
      refine ⟨fun n hn => ?_, by simp; omega⟩
      rcases List.mem_cons.1 hn with rfl | hn
      · omega
      · exact termsAll_bd _ 0 h3.1 n hn
    · rw [if_neg h2] at h ⊢
      by_cases h3 : x.kind = 3
      · rw [if_pos h3, Bool.and_eq_true] at h
        obtain ⟨a, _, b, c, _⟩ := surdB_true.1 h.1
        refine ⟨fun n hn => ?_, by simp⟩
        simp only [List.mem_cons, List.not_mem_nil, or_false] at hn
        rcases hn with rfl | rfl | rfl <;> omega
      · rw [if_neg h3] at h; cases h
theorem okToX_all {xs : List Nt} : ∀ n, n ≤ xs.length → okToX xs n = true → ∀ (j : Nat) (x : Nt), j < n → xs[j]? = some x → ntOk x = true
  | 0, _, _, j, x, hj, _ => by omega
  | n + 1, hn, h, j, x, hj, hx => by
    have h' : (okToX xs n && okAtX xs n) = true := h
    rw [Bool.and_eq_true] at h'
    by_cases hjn : j = n
    · subst hjn
      have h2 := h'.2
      unfold okAtX at h2
      rw [hx] at h2
      simp only [Bool.and_eq_true] at h2
      exact h2.1
    · exact okToX_all n (by omega) h'.1 j x (by omega) hx
/-- What a sound notebook has. -/
theorem valid_all {xs : List Nt} (h : validNt xs = true) : xs.length ≤ 40 ∧ ∀ x ∈ xs, ntOk x = true := by
  unfold validNt at h
  rw [Bool.and_eq_true] at h
  refine ⟨by simpa using h.2, fun x hx => ?_⟩
  obtain ⟨j, hj⟩ := List.getElem?_of_mem hx
  exact okToX_all xs.length (Nat.le_refl _) h.1 j x (List.getElem?_eq_some_iff.1 hj).1 hj
theorem book_bds {xs : List Nt} (h : validNt xs = true) : (bookB xs).length ≤ 30000 ∧ (∀ b ∈ bookB xs, 0 ≤ b ∧ b ≤ 255) ∧ 0 < (bookB xs).length := by
  obtain ⟨h1, h2⟩ := valid_all h
  refine ⟨?_, bookB_byte (by omega) (fun x hx => ?_), by simp [bookB]⟩
  · have h3 := books_length (xs := xs) (fun x hx => noteB_length (ntOk_bds (h2 x hx)).1 (ntOk_nu (h2 x hx)).1 (ntOk_nu (h2 x hx)).2)
    unfold bookB
    simp only [List.length_append, List.length_cons, List.length_nil]
    omega
  · obtain ⟨h4, h5⟩ := ntOk_bds (h2 x hx)
    omega
end Go.Proofs.YtbcikkaoohihhaaGreatDoor
