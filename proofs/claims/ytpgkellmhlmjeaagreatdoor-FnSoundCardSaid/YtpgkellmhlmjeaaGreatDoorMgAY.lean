/- Parts of the proof, merged: LisP LisW. No condition but those that each theorem names. -/
import Derived.Test.YtpgkellmhlmjeaaGreatDoorMgAW
import Derived.Test.YtpgkellmhlmjeaaGreatDoorMgAX
namespace Go.Proofs.YtpgkellmhlmjeaaGreatDoor
open Go.RowKit Go.Sort
/-- Neighbours on both sides of a fraction, which may be one of them. -/
structure LI (n d most a b c e : Int) : Prop where
  det : c * b - a * e = 1
  lo : 0 ≤ n * b - a * d
  hi : 0 ≤ c * d - n * e
  b1 : 1 ≤ b
  b2 : b ≤ most
  e1 : 1 ≤ e
  e2 : e ≤ most
theorem LI.start {n d most : Int} (h : SmF n d) (hm : 1 ≤ most) : LI n d most (n / d) 1 (n / d + 1) 1 := by
  have hd := h.d1
  have h1 := Int.mul_ediv_add_emod n d
  have h2 := Int.emod_nonneg n (show d ≠ 0 by omega)
  have h3 := Int.emod_lt_of_pos n (show 0 < d by omega)
  have i1 : n / d * d = d * (n / d) := Int.mul_comm _ _
  have i2 : (n / d + 1) * d = d * (n / d) + d := by rw [Int.add_mul, i1]; omega
  exact ⟨by omega, by omega, by rw [i2]; omega, by omega, hm, by omega, hm⟩
theorem LI.id {n d most a b c e : Int} (h : LI n d most a b c e) (k : Int) : (n * b - a * d - k * (c * d - n * e)) * e + (c * d - n * e) * (b + k * e) = d := by
  have := h.det
  have e1 : (n * b - a * d - k * (c * d - n * e)) * e + (c * d - n * e) * (b + k * e) = d * (c * b - a * e) := by grind
  rw [e1, this]
  omega
theorem LI.id2 {n d most a b c e : Int} (h : LI n d most a b c e) (k : Int) : (c * d - n * e - k * (n * b - a * d)) * b + (n * b - a * d) * (e + k * b) = d := by
  have := h.det
  have e1 : (c * d - n * e - k * (n * b - a * d)) * b + (n * b - a * d) * (e + k * b) = d * (c * b - a * e) := by grind
  rw [e1, this]
  omega
theorem le_mul_pos {x y : Int} (hx : 0 ≤ x) (hy : 1 ≤ y) : x ≤ x * y := by
  have := Int.mul_le_mul_of_nonneg_left hy hx
  omega
/-- What the numbers are at most. -/
theorem LI.bd {n d most a b c e : Int} (s : SmF n d) (hm : most ≤ 60) (h : LI n d most a b c e) : (n * b - a * d ≤ 2000 ∧ c * d - n * e ≤ 2000) ∧ (-200000 ≤ a ∧ a ≤ 200000) ∧ (-200000 ≤ c ∧ c ≤ 200000) := by
  have i := h.id 0
  have hd := s.d1
  have hd2 := s.d2
  have l0 := h.lo
  have h0 := h.hi
  have b1 := h.b1
  have b2 := h.b2
  have c1 := h.e1
  have c2 := h.e2
  simp only [Int.zero_mul, Int.sub_zero, Int.add_zero] at i
  have k1 := le_mul_pos l0 c1
  have k2 := le_mul_pos h0 b1
  have m1 := Int.mul_nonneg l0 (show 0 ≤ e by omega)
  have m2 := Int.mul_nonneg h0 (show 0 ≤ b by omega)
  obtain ⟨n1, n2⟩ := mul_bd (x := n) (y := b) (M := 2000) (N := 60) (by have := s.n1; omega) s.n2 (by omega) (by omega) (by have := s.n1; omega) (by omega)
  obtain ⟨n3, n4⟩ := mul_bd (x := n) (y := e) (M := 2000) (N := 60) (by have := s.n1; omega) s.n2 (by omega) (by omega) (by have := s.n1; omega) (by omega)
  have big : ∀ z : Int, -190000 ≤ z * d → z * d ≤ 190000 → -200000 ≤ z ∧ z ≤ 200000 := by
    intro z z1 z2
    constructor
    · rcases Int.lt_or_le z 0 with g | g
      · have := le_mul_pos (x := -z) (by omega) hd
        rw [Int.neg_mul] at this
        omega
      · omega
    · rcases Int.lt_or_le z 0 with g | g
      · omega
      · have := le_mul_pos g hd
        omega
  exact ⟨⟨by omega, by omega⟩, big a (by omega) (by omega), big c (by omega) (by omega)⟩
theorem LI.err {n d most a b c e : Int} (h : LI n d most a b c e) : errV n d a b = n * b - a * d ∧ errV n d c e = c * d - n * e := by
  have := h.lo
  have := h.hi
  unfold errV
  omega
/-- The side that is the fraction. -/
theorem at_frac {n d a b c e : Int} (s : SmF n d) (hb : 1 ≤ b) (hdet : c * b - a * e = 1 ∨ a * e - c * b = 1) (h : n * b - a * d = 0) : a = n ∧ b = d := by
  have hd := s.d1
  obtain ⟨m, hm⟩ := dvd_of_eq s.cop (show n * b = a * d by omega)
  have ha : a = n * m := by
    have : a * d = (n * m) * d := by rw [hm] at h; grind
    exact Int.eq_of_mul_eq_mul_right (by omega) this
  have hm1 : m ∣ 1 := by
    rcases hdet with g | g
    · rw [← g, ha, hm]
      exact ⟨c * d - n * e, by grind⟩
    · rw [← g, ha, hm]
      exact ⟨n * e - c * d, by grind⟩
  have hmp : 0 < m := by
    rcases Int.lt_or_le 0 m with g | g
    · exact g
    · exfalso
      have := Int.mul_le_mul_of_nonneg_left g (show 0 ≤ d by omega)
      rw [Int.mul_zero] at this
      omega
  have : m = 1 := Int.eq_one_of_dvd_one (by omega) hm1
  subst this
  constructor <;> omega
theorem LI.low_ne {n d most a b c e : Int} (s : SmF n d) (h : LI n d most a b c e) (hne : ¬ (a = n ∧ b = d)) : 1 ≤ n * b - a * d := by
  have := h.lo
  rcases Int.lt_or_le 0 (n * b - a * d) with g | g
  · omega
  · exact absurd (at_frac s h.b1 (.inl h.det) (by omega)) hne
theorem LI.high_ne {n d most a b c e : Int} (s : SmF n d) (h : LI n d most a b c e) (hne : ¬ (c = n ∧ e = d)) : 1 ≤ c * d - n * e := by
  have := h.hi
  rcases Int.lt_or_le 0 (c * d - n * e) with g | g
  · omega
  · exact absurd (at_frac (c := a) (e := b) s h.e1 (.inr h.det) (by omega)) hne
theorem LI.lt_den {n d most a b c e : Int} (h : LI n d most a b c e) (hx : 1 ≤ n * b - a * d) (hy : 1 ≤ c * d - n * e) : b < d ∧ e < d := by
  have i := h.id 0
  simp only [Int.zero_mul, Int.sub_zero, Int.add_zero] at i
  have k1 := le_mul_pos (x := e) (y := n * b - a * d) (by have := h.e1; omega) hx
  have k2 := le_mul_pos (x := b) (y := c * d - n * e) (by have := h.b1; omega) hy
  rw [Int.mul_comm e] at k1
  rw [Int.mul_comm b] at k2
  have := h.e1
  have := h.b1
  omega
theorem ediv_ge_one {x y : Int} (hy : 1 ≤ y) (h : y ≤ x) : 1 ≤ x / y := by
  rw [Int.le_ediv_iff_mul_le (by omega)]
  omega
/-- A step of the lower side. -/
theorem LI.goLow {n d most a b c e : Int} (h : LI n d most a b c e) (hy : 1 ≤ c * d - n * e) (hm : b + e ≤ most) (hs : (a + c) * d < n * (b + e)) :
    ∃ K, min ((n * b - a * d) / (c * d - n * e)) ((most - b) / e) = K ∧ LI n d most (a + K * c) (b + K * e) c e ∧ b < b + K * e ∧ ∀ k, 1 ≤ k → k ≤ K → b + k * e ≤ d := by
  have c1 := h.e1
  have b1 := h.b1
  have hx : c * d - n * e ≤ n * b - a * d := by
    have : (a + c) * d = a * d + c * d := Int.add_mul ..
    have : n * (b + e) = n * b + n * e := Int.mul_add ..
    omega
  have q1 := ediv_ge_one hy hx
  have q2 := ediv_ge_one (x := most - b) c1 (by omega)
  have q3 := div_mul_le (x := n * b - a * d) (show 0 < c * d - n * e by omega)
  have q4 := div_mul_le (x := most - b) (show 0 < e by omega)
  obtain ⟨K, hK⟩ : ∃ K, min ((n * b - a * d) / (c * d - n * e)) ((most - b) / e) = K := ⟨_, rfl⟩
  have k1 : 1 ≤ K := by omega
  have k2 : K ≤ (n * b - a * d) / (c * d - n * e) := by omega
  have k3 : K ≤ (most - b) / e := by omega
  have l2 := Int.mul_le_mul_of_nonneg_right k2 (show 0 ≤ c * d - n * e by omega)
  have l3 := Int.mul_le_mul_of_nonneg_right k3 (show 0 ≤ e by omega)
  have l4 := Int.mul_le_mul_of_nonneg_right k1 (show 0 ≤ e by omega)
  refine ⟨K, hK, ⟨?_, ?_, h.hi, by omega, by omega, h.e1, h.e2⟩, by omega, ?_⟩
  · have := h.det
    grind
  · have : n * (b + K * e) - (a + K * c) * d = n * b - a * d - K * (c * d - n * e) := by grind
    rw [this]
    omega
  · intro k i1 i2
    have i := h.id k
    have l5 := Int.mul_le_mul_of_nonneg_right i2 (show 0 ≤ c * d - n * e by omega)
    have l6 := Int.mul_nonneg (show 0 ≤ n * b - a * d - k * (c * d - n * e) by omega) (show 0 ≤ e by omega)
    have l7 := Int.mul_nonneg (show 0 ≤ k by omega) (show 0 ≤ e by omega)
    have l8 := le_mul_pos (x := b + k * e) (y := c * d - n * e) (by omega) hy
    rw [Int.mul_comm (b + k * e)] at l8
    omega
/-- A step of the upper side. -/
theorem LI.goHigh {n d most a b c e : Int} (h : LI n d most a b c e) (hx : 1 ≤ n * b - a * d) (hm : b + e ≤ most) (hs : ¬ (a + c) * d < n * (b + e)) :
    ∃ K, min ((c * d - n * e) / (n * b - a * d)) ((most - e) / b) = K ∧ LI n d most a b (c + K * a) (e + K * b) ∧ e < e + K * b ∧ ∀ k, 1 ≤ k → k ≤ K → e + k * b ≤ d := by
  have c1 := h.e1
  have b1 := h.b1
  have hy : n * b - a * d ≤ c * d - n * e := by
    have : (a + c) * d = a * d + c * d := Int.add_mul ..
    have : n * (b + e) = n * b + n * e := Int.mul_add ..
    omega
  have q1 := ediv_ge_one hx hy
  have q2 := ediv_ge_one (x := most - e) b1 (by omega)
  have q3 := div_mul_le (x := c * d - n * e) (show 0 < n * b - a * d by omega)
  have q4 := div_mul_le (x := most - e) (show 0 < b by omega)
  obtain ⟨K, hK⟩ : ∃ K, min ((c * d - n * e) / (n * b - a * d)) ((most - e) / b) = K := ⟨_, rfl⟩
  have k1 : 1 ≤ K := by omega
  have k2 : K ≤ (c * d - n * e) / (n * b - a * d) := by omega
  have k3 : K ≤ (most - e) / b := by omega
  have l2 := Int.mul_le_mul_of_nonneg_right k2 (show 0 ≤ n * b - a * d by omega)
  have l3 := Int.mul_le_mul_of_nonneg_right k3 (show 0 ≤ b by omega)
  have l4 := Int.mul_le_mul_of_nonneg_right k1 (show 0 ≤ b by omega)
  refine ⟨K, hK, ⟨?_, h.lo, ?_, h.b1, h.b2, by omega, by omega⟩, by omega, ?_⟩
  · have := h.det
    grind
  · have : (c + K * a) * d - n * (e + K * b) = c * d - n * e - K * (n * b - a * d) := by grind
    rw [this]
    omega
  · intro k i1 i2
    have i := h.id2 k
    have l5 := Int.mul_le_mul_of_nonneg_right i2 (show 0 ≤ n * b - a * d by omega)
    have l6 := Int.mul_nonneg (show 0 ≤ c * d - n * e - k * (n * b - a * d) by omega) (show 0 ≤ b by omega)
    have l7 := Int.mul_nonneg (show 0 ≤ k by omega) (show 0 ≤ b by omega)
    have l8 := le_mul_pos (x := e + k * b) (y := n * b - a * d) (by omega) hx
    rw [Int.mul_comm (e + k * b)] at l8
    omega
end Go.Proofs.YtpgkellmhlmjeaaGreatDoor
namespace Go.Proofs.YtpgkellmhlmjeaaGreatDoor
open Go.RowKit Go.Sort
/-- The state of a list on its way. -/
structure LS (n d : Int) (sec : Bool) (w : World) (a b c e : Int) (full : Bool) (v : Value) (W : World) : Prop where
  lg : LG w (w.heap.size + 1) (w.heap.size + 1 + 1) n d sec full v W
  f : B2 w.heap.size n d W
  lo : B2 (w.heap.size + 1 + 1 + 1) a b W
  hi : B2 (w.heap.size + 1 + 1 + 1 + 1) c e W
  n0 : v.ownBlock ≠ some w.heap.size
  n1 : v.ownBlock ≠ some (w.heap.size + 1 + 1 + 1)
  n2 : v.ownBlock ≠ some (w.heap.size + 1 + 1 + 1 + 1)
section
variable {n d : Int} {sec : Bool} {w : World} {a b c e : Int} {full : Bool} {v : Value} {W W' : World}
theorem LS.next (h : LS n d sec w a b c e full v W) (hb : Below W.heap.size W W') : LS n d sec w a b c e full v W' :=
  ⟨h.lg.next hb, h.f.next hb, h.lo.next hb, h.hi.next hb, h.n0, h.n1, h.n2⟩
theorem LS.saw {full' : Bool} {v' : Value} (h : LS n d sec w a b c e full v W) (hl : LG w (w.heap.size + 1) (w.heap.size + 1 + 1) n d sec full' v' W') (k : KL (w.heap.size + 1 + 1) v v' W W') : LS n d sec w a b c e full' v' W' :=
  ⟨hl, h.f.kl k (by omega) h.n0, h.lo.kl k (by omega) h.n1, h.hi.kl k (by omega) h.n2, (k.block _ h.f.2.2.2 (by omega) h.n0).2, (k.block _ h.lo.2.2.2 (by omega) h.n1).2, (k.block _ h.hi.2.2.2 (by omega) h.n2).2⟩
theorem LS.low (h : LS n d sec w a b c e full v W) (x y : Int) : LS n d sec w x y c e full v ((W.setCell ⟨w.heap.size + 1 + 1 + 1, 0, none⟩ (.int .i64 x)).setCell ⟨w.heap.size + 1 + 1 + 1, 1, none⟩ (.int .i64 y)) :=
  ⟨(h.lg.setFar (by omega) (by omega) h.n1 _).setFar (by omega) (by omega) h.n1 _, (h.f.far (by omega) _).far (by omega) _, h.lo.set x y, (h.hi.far (by omega) _).far (by omega) _, h.n0, h.n1, h.n2⟩
theorem LS.high (h : LS n d sec w a b c e full v W) (x y : Int) : LS n d sec w a b x y full v ((W.setCell ⟨w.heap.size + 1 + 1 + 1 + 1, 0, none⟩ (.int .i64 x)).setCell ⟨w.heap.size + 1 + 1 + 1 + 1, 1, none⟩ (.int .i64 y)) :=
  ⟨(h.lg.setFar (by omega) (by omega) h.n2 _).setFar (by omega) (by omega) h.n2 _, (h.f.far (by omega) _).far (by omega) _, (h.lo.far (by omega) _).far (by omega) _, h.hi.set x y, h.n0, h.n1, h.n2⟩
theorem LS.ms (h : LS n d sec w a b c e full v W) (most : Int) : mS w most W = (2 * most - b - e).toNat := by
  unfold mS ci
  rw [h.lo.2.1, h.hi.2.1]
  rfl
theorem LG.slice {w0 : World} {base bx : Nat} (h : LG w0 base bx n d sec full v W) : ∃ A l c, v = .slice A l c := by
  obtain ⟨out, h1, _⟩ := h
  obtain ⟨_, A, c, e, _⟩ := Wr.of_ownS h1.row.1
  exact ⟨A, _, c, e⟩
theorem LS.start (w : World) (n d a b c e : Int) (sec : Bool) : LS n d sec w a b c e false (.slice (some ⟨w.heap.size + 1, 0, none⟩) 0 0)
    (((((w.alloc (.cells #[.int .i64 n, .int .i64 d] 41)).alloc (.cells #[] 41)).alloc (.cells #[.int .i64 n, .int .i64 d, .bool sec, .slice (some ⟨w.heap.size + 1, 0, none⟩) 0 0, .bool false] 158)).alloc (.cells #[.int .i64 a, .int .i64 b] 41)).alloc (.cells #[.int .i64 c, .int .i64 e] 41)) := by
  obtain ⟨w1, h1⟩ : ∃ W, w.alloc (.cells #[.int .i64 n, .int .i64 d] 41) = W := ⟨_, rfl⟩
  have z1 : w1.heap.size = w.heap.size + 1 := by rw [← h1]; simp
  have f1 : B2 w.heap.size n d w1 := h1 ▸ B2.new w n d _
  have b1 : Below w.heap.size w w1 := h1 ▸ ext1 _ _
  rw [h1]
  have hr : (w1.alloc (.cells #[] 41)).ownsRow (w.heap.size + 1) 41 2 (.slice (some ⟨w.heap.size + 1, 0, none⟩) 0 0) 0 [] := by
    have h := World.ownsRow_lit (base := w.heap.size + 1) (e := 41) (size := 2) w1 #[] 0 (by omega) (by simp) rfl
    rw [z1] at h
    simpa using h
  obtain ⟨w2, h2⟩ : ∃ W, w1.alloc (.cells #[] 41) = W := ⟨_, rfl⟩
  have z2 : w2.heap.size = w.heap.size + 1 + 1 := by rw [← h2]; simp [z1]
  have e2 : Below w1.heap.size w1 w2 := h2 ▸ ext1 _ _
  rw [h2] at hr ⊢
  have B := BoxV.new w2 #[.int .i64 n, .int .i64 d, .bool sec, .slice (some ⟨w.heap.size + 1, 0, none⟩) 0 0, .bool false] 158
  rw [z2] at B
  obtain ⟨w3, h3⟩ : ∃ W, w2.alloc (.cells #[.int .i64 n, .int .i64 d, .bool sec, .slice (some ⟨w.heap.size + 1, 0, none⟩) 0 0, .bool false] 158) = W := ⟨_, rfl⟩
  have z3 : w3.heap.size = w.heap.size + 1 + 1 + 1 := by rw [← h3]; simp [z2]
  have e3 : Below w2.heap.size w2 w3 := h3 ▸ ext1 _ _
  rw [h3] at B ⊢
  have E : ∀ o1 o2 : Obj, Below w3.heap.size w3 ((w3.alloc o1).alloc o2) := fun o1 o2 => ext_alloc (ext1 _ _) _
  have hbase : w.heap.size + 1 ≤ w3.heap.size := by omega
  have lb : LB w (w.heap.size + 1) (w.heap.size + 1 + 1) n d sec false [] (.slice (some ⟨w.heap.size + 1, 0, none⟩) 0 0) w3 :=
    ⟨by simpa using B, ⟨by simpa [frL] using own_below hr e3, ext_trans (ext_trans b1 e2) e3, hbase⟩, by omega, by omega, by simp [Value.ownBlock]⟩
  refine ⟨⟨[], lb.next (E _ _), by simp, by simp⟩, ((f1.next e2).next e3).next (E _ _), ?_, ?_, by simp [Value.ownBlock], by simp [Value.ownBlock], by simp [Value.ownBlock]⟩
  · exact (B2.new_at a b _ z3.symm).next (ext1 _ _)
  · exact B2.new_at c e _ (by simp [z3])
end
set_option maxRecDepth 100000 in
set_option maxHeartbeats 4000000 in
theorem l18List_any (n d most : Int) (sec : Bool) (w : World) (s : SmF n d) (m1 : 1 ≤ most) (m2 : most ≤ 60) :
    Calls Tryz.prog 118 #[fracV n d, .int .i64 most, .bool sec] w fun e w' => ∃ (full : Bool) (v : Value), e = .returned (.tuple #[v, .bool (!full)]) ∧ LG w (w.heap.size + 1) (w.heap.size + 1 + 1) n d sec full v w' := by
  have q1 := Tryz.eqGuardType41
  have q2 := Tryz.stoodInHeld41
  have HS := Lib.hid s
  have n1 := s.n1
  have n2 := s.n2
  have d1 := s.d1
  have d2 := s.d2
  have HQ := Lib.hid (l02Floor_any n d · (by omega) (by omega) (by omega) (by omega))
  obtain ⟨p1, p2⟩ := ediv_bd (n := n) (g := d) (M := 2000) (by omega) (by omega) (by omega)
  have HI := Lib.hid (LI.start s m1)
  clear s
  generalize n / d = q at *
  unfold fracV at *
  go_enter Tryz.func118, Tryz.ntmps118
  go_wp2_with fail
  refine (HQ.out _).mono ?_
  rintro e w' ⟨rfl, rfl⟩
  go_wp2_with fail
  have L := Lib.hid (LS.start w n d q 1 (q + 1) 1 sec)
  generalize (((((w.alloc (.cells #[.int .i64 n, .int .i64 d] 41)).alloc (.cells #[] 41)).alloc (.cells #[.int .i64 n, .int .i64 d, .bool sec, .slice (some ⟨w.heap.size + 1, 0, none⟩) 0 0, .bool false] 158)).alloc (.cells #[.int .i64 q, .int .i64 1] 41)).alloc (.cells #[.int .i64 (q + 1), .int .i64 1] 41)) = W0 at *
  refine (see_any _ _ n d sec _ _ q 1 w _ HS.out L.out.lg (by omega) (by omega)).mono ?_
  rintro e w1 ⟨rfl, f1, u1, hl, hk⟩
  have L := Lib.hid (L.out.saw hl hk)
  clear hl hk
  obtain ⟨r0, r1, _, _⟩ := L.out.f
  obtain ⟨y0, y1, _, _⟩ := L.out.lo
  obtain ⟨v0, v1, _, _⟩ := L.out.hi
  have cf := L.out.lg.parts.1.at 4 _ rfl
  by_cases hl : q = n ∧ 1 = d
  · have t1 : (q == n) = true := by simpa using hl.1
    have t2 : ((1 : Int) == d) = true := by simpa using hl.2
    clear hl
    go_wp2_with fail
    clear r0 r1 y0 y1 v0 v1 cf t1 t2
    go_loopw [11] (fun _ wr => ∃ (a b c e : Int) (f : Bool) (v : Value), Hid (LI n d most a b c e) ∧ Hid (LS n d sec w a b c e f v wr)) (fun _ wr => mS w most wr)
    case atStart => exact ⟨_, _, _, _, _, _, HI.out, L.out⟩
    case round =>
      clear HI L
      obtain ⟨a, b, c, e, f, v, HB, L⟩ := hrel
      obtain ⟨⟨X2, Y2⟩, ⟨a1, a2⟩, ⟨c1, c2⟩⟩ := HB.out.bd HS.out m2
      have b1 := HB.out.b1
      have b2 := HB.out.b2
      have e1 := HB.out.e1
      have e2 := HB.out.e2
      obtain ⟨r0, r1, _, _⟩ := L.out.f
      obtain ⟨y0, y1, _, _⟩ := L.out.lo
      obtain ⟨v0, v1, _, _⟩ := L.out.hi
      have cf := L.out.lg.parts.1.at 4 _ rfl
      by_cases hl : a = n ∧ b = d
      · have t1 : (a == n) = true := by simpa using hl.1
        have t2 : (b == d) = true := by simpa using hl.2
        clear hl
        go_wp2_with fail
        obtain ⟨A9, l9, c9, rfl⟩ := L.out.lg.slice
        have k3 : ∀ x os, (grow (redrawn wr x) os).cell? ⟨w.heap.size + 1 + 1, 3, none⟩ = some (.slice A9 l9 c9) := cell_regrown (L.out.lg.parts.1.at 3 _ rfl)
        have k4 : ∀ x os, (grow (redrawn wr x) os).cell? ⟨w.heap.size + 1 + 1, 4, none⟩ = some (.bool f) := cell_regrown (L.out.lg.parts.1.at 4 _ rfl)
        refine wp_region_quiet_below (by kernel_rfl) (by kernel_rfl) ?_
        repeat (first | go_big_quiet_step ((fail)) | quiet_step ((fail)))
        refine wpQuiet_nil ?_
        intro _ hw'
        obtain ⟨⟨dq, oq⟩, hw''⟩ := hw'
        subst hw''
        obtain ⟨w9, hW9⟩ : ∃ Wq, Wq = grow (redrawn wr dq) oq := ⟨_, rfl⟩
        have hb9 : Below wr.heap.size wr w9 := by rw [hW9]; exact below_regrown _ _ _
        rw [← hW9]
        clear hW9
        obtain ⟨hc9, hf9⟩ := bcell hb9
        have hy9 := hb9.size
        clear k3 k4
        go_wp2
        go_ret2
        exact ⟨_, _, rfl, L.out.lg.next hb9⟩
      · have X1 := HB.out.low_ne HS.out hl
        by_cases hh : c = n ∧ e = d
        · have t1 : (c == n) = true := by simpa using hh.1
          have t2 : (e == d) = true := by simpa using hh.2
          have t3 : (a == n) = false ∨ ((a == n) = true ∧ (b == d) = false) := by
            by_cases h : a = n
            · exact .inr ⟨by simpa using h, by simp; exact fun e => hl ⟨h, e⟩⟩
            · exact .inl (by simpa using h)
          clear hl hh
          rcases t3 with t3 | ⟨t3, t4⟩
          all_goals
            go_wp2_with fail
            obtain ⟨A9, l9, c9, rfl⟩ := L.out.lg.slice
            have k3 : ∀ x os, (grow (redrawn wr x) os).cell? ⟨w.heap.size + 1 + 1, 3, none⟩ = some (.slice A9 l9 c9) := cell_regrown (L.out.lg.parts.1.at 3 _ rfl)
            have k4 : ∀ x os, (grow (redrawn wr x) os).cell? ⟨w.heap.size + 1 + 1, 4, none⟩ = some (.bool f) := cell_regrown (L.out.lg.parts.1.at 4 _ rfl)
            refine wp_region_quiet_below (by kernel_rfl) (by kernel_rfl) ?_
            repeat (first | go_big_quiet_step ((fail)) | quiet_step ((fail)))
            refine wpQuiet_nil ?_
            intro _ hw'
            obtain ⟨⟨dq, oq⟩, hw''⟩ := hw'
            subst hw''
            obtain ⟨w9, hW9⟩ : ∃ Wq, Wq = grow (redrawn wr dq) oq := ⟨_, rfl⟩
            have hb9 : Below wr.heap.size wr w9 := by rw [hW9]; exact below_regrown _ _ _
            rw [← hW9]
            clear hW9
            obtain ⟨hc9, hf9⟩ := bcell hb9
            have hy9 := hb9.size
            clear k3 k4
            go_wp2
            go_ret2
            exact ⟨_, _, rfl, L.out.lg.next hb9⟩
        · have Y1 := HB.out.high_ne HS.out hh
          obtain ⟨hbd, hed⟩ := HB.out.lt_den X1 Y1
          have t1 : (b == d) = false := by simp; omega
          have t2 : (e == d) = false := by simp; omega
          clear hl hh
          by_cases hm : b + e ≤ most
          · cases f
            · have HP : Hid (∀ W, Calls Tryz.prog 150 #[.agg #[.int .i64 a, .int .i64 b], .agg #[.int .i64 c, .int .i64 e], .int .i64 1] W fun x w' => x = .returned (.agg #[.int .i64 (a + c), .int .i64 (b + e)]) ∧ Below W.heap.size W w') := fun W => by
                have h := l18Plus_any a b c e 1 W (by omega) (by omega) (by omega) (by omega)
                rw [Int.one_mul, Int.one_mul] at h
                exact h
              obtain ⟨m1', m2'⟩ := mul_bd (x := a + c) (y := d) (M := 400000) (N := 2000) (by omega) (by omega) (by omega) (by omega) (by omega) (by omega)
              obtain ⟨m3', m4'⟩ := mul_bd (x := n) (y := b + e) (M := 2000) (N := 120) (by omega) (by omega) (by omega) (by omega) (by omega) (by omega)
              have HL : Hid (∀ W, Calls Tryz.prog 131 #[.agg #[.int .i64 (a + c), .int .i64 (b + e)], .agg #[.int .i64 n, .int .i64 d]] W fun e' w' => e' = .returned (.bool (decide ((a + c) * d < n * (b + e)))) ∧ Below W.heap.size W w') := fun W => l02Less_any _ _ _ _ W (by omega) (by omega) (by omega) (by omega)
              clear m1' m2' m3' m4'
              go_wp2_with fail
              refine (HP.out _).mono ?_
              rintro x w3 ⟨rfl, hb3⟩
              have L3 := Lib.hid (L.out.next hb3)
              clear hb3 HP r0 r1 y0 y1 v0 v1 cf
              obtain ⟨r0, r1, _, _⟩ := (L3.out.next (ext1 w3 (.cells #[.int .i64 (a + c), .int .i64 (b + e)] 41))).f
              go_wp2_with fail
              refine (HL.out _).mono ?_
              rintro x w4 ⟨rfl, hb4⟩
              have L4 := Lib.hid ((L3.out.next (ext1 w3 (.cells #[.int .i64 (a + c), .int .i64 (b + e)] 41))).next hb4)
              clear hb4 HL r0 r1
              obtain ⟨y0, y1, _, _⟩ := L4.out.lo
              obtain ⟨v0, v1, _, _⟩ := L4.out.hi
              obtain ⟨E1, E2⟩ := HB.out.err
              by_cases hs : (a + c) * d < n * (b + e)
              · obtain ⟨K, hK, HB2, hmv, hdk⟩ := HB.out.goLow Y1 hm hs
                have HB2 := Lib.hid HB2
                have HR := Lib.hid (fun W (hW : LG w (w.heap.size + 1) (w.heap.size + 1 + 1) n d sec false v W) => run_any (w.heap.size + 1) (w.heap.size + 1 + 1) n d sec false v a b c e most _ _ K w W HS.out hW E1 E2 (by omega) X2 Y1 Y2 a1 a2 c1 c2 b1 b2 e1 e2 (by omega) hK hdk)
                clear hK hdk E1 E2
                obtain ⟨a', ha⟩ : ∃ a', a + K * c = a' := ⟨_, rfl⟩
                obtain ⟨b', hb⟩ : ∃ b', b + K * e = b' := ⟨_, rfl⟩
                rw [ha, hb] at HR HB2
                rw [hb] at hmv
                clear ha hb
                have hmv := Lib.hid hmv
                have hmm := Lib.hid (And.intro HB2.out.b2 HB2.out.e2)
                go_wp2_with fail
                refine (HR.out _ L4.out.lg).mono ?_
                rintro x w5 ⟨rfl, f5, v5, hl5, hk5⟩
                have L5 := Lib.hid (L4.out.saw hl5 hk5)
                clear hl5 hk5 y0 y1 v0 v1 HR
                obtain ⟨y0, y1, yf, _⟩ := L5.out.lo
                have yf0 := yf 0
                have yf1 := yf 1
                clear yf
                go_wp2_with fail
                refine ⟨⟨a', b', c, e, f5, v5, HB2.out, L5.out.low a' b'⟩, ?_⟩
                rw [(L5.out.low a' b').ms most, L.out.ms most]
                have := hmv.out
                have := hmm.out
                omega
              · obtain ⟨K, hK, HB2, hmv, hdk⟩ := HB.out.goHigh X1 hm hs
                have HB2 := Lib.hid HB2
                have HR := Lib.hid (fun W (hW : LG w (w.heap.size + 1) (w.heap.size + 1 + 1) n d sec false v W) => run_any (w.heap.size + 1) (w.heap.size + 1 + 1) n d sec false v c e a b most _ _ K w W HS.out hW E2 E1 (by omega) Y2 X1 X2 c1 c2 a1 a2 e1 e2 b1 b2 (by omega) hK hdk)
                clear hK hdk E1 E2
                obtain ⟨a', ha⟩ : ∃ a', c + K * a = a' := ⟨_, rfl⟩
                obtain ⟨b', hb⟩ : ∃ b', e + K * b = b' := ⟨_, rfl⟩
                rw [ha, hb] at HR HB2
                rw [hb] at hmv
                clear ha hb
                have hmv := Lib.hid hmv
                have hmm := Lib.hid (And.intro HB2.out.b2 HB2.out.e2)
                go_wp2_with fail
                refine (HR.out _ L4.out.lg).mono ?_
                rintro x w5 ⟨rfl, f5, v5, hl5, hk5⟩
                have L5 := Lib.hid (L4.out.saw hl5 hk5)
                clear hl5 hk5 y0 y1 v0 v1 HR
                obtain ⟨v0, v1, vf, _⟩ := L5.out.hi
                have vf0 := vf 0
                have vf1 := vf 1
                clear vf
                go_wp2_with fail
                refine ⟨⟨a, b, a', b', f5, v5, HB2.out, L5.out.high a' b'⟩, ?_⟩
                rw [(L5.out.high a' b').ms most, L.out.ms most]
                have := hmv.out
                have := hmm.out
                omega
            · skip
              go_wp2_with fail
              obtain ⟨A9, l9, c9, rfl⟩ := L.out.lg.slice
              have k3 : ∀ x os, (grow (redrawn wr x) os).cell? ⟨w.heap.size + 1 + 1, 3, none⟩ = some (.slice A9 l9 c9) := cell_regrown (L.out.lg.parts.1.at 3 _ rfl)
              have k4 : ∀ x os, (grow (redrawn wr x) os).cell? ⟨w.heap.size + 1 + 1, 4, none⟩ = some (.bool true) := cell_regrown (L.out.lg.parts.1.at 4 _ rfl)
              refine wp_region_quiet_below (by kernel_rfl) (by kernel_rfl) ?_
              repeat (first | go_big_quiet_step ((fail)) | quiet_step ((fail)))
              refine wpQuiet_nil ?_
              intro _ hw'
              obtain ⟨⟨dq, oq⟩, hw''⟩ := hw'
              subst hw''
              obtain ⟨w9, hW9⟩ : ∃ Wq, Wq = grow (redrawn wr dq) oq := ⟨_, rfl⟩
              have hb9 : Below wr.heap.size wr w9 := by rw [hW9]; exact below_regrown _ _ _
              rw [← hW9]
              clear hW9
              obtain ⟨hc9, hf9⟩ := bcell hb9
              have hy9 := hb9.size
              clear k3 k4
              go_wp2
              go_ret2
              exact ⟨_, _, rfl, L.out.lg.next hb9⟩
          · skip
            go_wp2_with fail
            obtain ⟨A9, l9, c9, rfl⟩ := L.out.lg.slice
            have k3 : ∀ x os, (grow (redrawn wr x) os).cell? ⟨w.heap.size + 1 + 1, 3, none⟩ = some (.slice A9 l9 c9) := cell_regrown (L.out.lg.parts.1.at 3 _ rfl)
            have k4 : ∀ x os, (grow (redrawn wr x) os).cell? ⟨w.heap.size + 1 + 1, 4, none⟩ = some (.bool f) := cell_regrown (L.out.lg.parts.1.at 4 _ rfl)
            refine wp_region_quiet_below (by kernel_rfl) (by kernel_rfl) ?_
            repeat (first | go_big_quiet_step ((fail)) | quiet_step ((fail)))
            refine wpQuiet_nil ?_
            intro _ hw'
            obtain ⟨⟨dq, oq⟩, hw''⟩ := hw'
            subst hw''
            obtain ⟨w9, hW9⟩ : ∃ Wq, Wq = grow (redrawn wr dq) oq := ⟨_, rfl⟩
            have hb9 : Below wr.heap.size wr w9 := by rw [hW9]; exact below_regrown _ _ _
            rw [← hW9]
            clear hW9
            obtain ⟨hc9, hf9⟩ := bcell hb9
            have hy9 := hb9.size
            clear k3 k4
            go_wp2
            go_ret2
            exact ⟨_, _, rfl, L.out.lg.next hb9⟩
  · have t3 : (q == n) = false ∨ ((q == n) = true ∧ ((1 : Int) == d) = false) := by
      by_cases h : q = n
      · exact .inr ⟨by simpa using h, by simp; exact fun e => hl ⟨h, e⟩⟩
      · exact .inl (by simpa using h)
    clear hl
    rcases t3 with t3 | ⟨t3, t4⟩
    all_goals
      go_wp2_with fail
      refine (see_any _ _ n d sec _ _ (q + 1) 1 w _ HS.out L.out.lg (by omega) (by omega)).mono ?_
      rintro e w2 ⟨rfl, f2, u2, hl, hk⟩
      have L := Lib.hid (L.out.saw hl hk)
      clear hl hk t3 r0 r1 y0 y1 v0 v1 cf
      (try clear t4)
      obtain ⟨r0, r1, _, _⟩ := L.out.f
      obtain ⟨y0, y1, _, _⟩ := L.out.lo
      obtain ⟨v0, v1, _, _⟩ := L.out.hi
      have cf := L.out.lg.parts.1.at 4 _ rfl
      go_wp2_with fail
      clear r0 r1 y0 y1 v0 v1 cf
      go_loopw [11] (fun _ wr => ∃ (a b c e : Int) (f : Bool) (v : Value), Hid (LI n d most a b c e) ∧ Hid (LS n d sec w a b c e f v wr)) (fun _ wr => mS w most wr)
      case atStart => exact ⟨_, _, _, _, _, _, HI.out, L.out⟩
      case round =>
        clear HI L
        obtain ⟨a, b, c, e, f, v, HB, L⟩ := hrel
        obtain ⟨⟨X2, Y2⟩, ⟨a1, a2⟩, ⟨c1, c2⟩⟩ := HB.out.bd HS.out m2
        have b1 := HB.out.b1
        have b2 := HB.out.b2
        have e1 := HB.out.e1
        have e2 := HB.out.e2
        obtain ⟨r0, r1, _, _⟩ := L.out.f
        obtain ⟨y0, y1, _, _⟩ := L.out.lo
        obtain ⟨v0, v1, _, _⟩ := L.out.hi
        have cf := L.out.lg.parts.1.at 4 _ rfl
        by_cases hl : a = n ∧ b = d
        · have t1 : (a == n) = true := by simpa using hl.1
          have t2 : (b == d) = true := by simpa using hl.2
          clear hl
          go_wp2_with fail
          obtain ⟨A9, l9, c9, rfl⟩ := L.out.lg.slice
          have k3 : ∀ x os, (grow (redrawn wr x) os).cell? ⟨w.heap.size + 1 + 1, 3, none⟩ = some (.slice A9 l9 c9) := cell_regrown (L.out.lg.parts.1.at 3 _ rfl)
          have k4 : ∀ x os, (grow (redrawn wr x) os).cell? ⟨w.heap.size + 1 + 1, 4, none⟩ = some (.bool f) := cell_regrown (L.out.lg.parts.1.at 4 _ rfl)
          refine wp_region_quiet_below (by kernel_rfl) (by kernel_rfl) ?_
          repeat (first | go_big_quiet_step ((fail)) | quiet_step ((fail)))
          refine wpQuiet_nil ?_
          intro _ hw'
          obtain ⟨⟨dq, oq⟩, hw''⟩ := hw'
          subst hw''
          obtain ⟨w9, hW9⟩ : ∃ Wq, Wq = grow (redrawn wr dq) oq := ⟨_, rfl⟩
          have hb9 : Below wr.heap.size wr w9 := by rw [hW9]; exact below_regrown _ _ _
          rw [← hW9]
          clear hW9
          obtain ⟨hc9, hf9⟩ := bcell hb9
          have hy9 := hb9.size
          clear k3 k4
          go_wp2
          go_ret2
          exact ⟨_, _, rfl, L.out.lg.next hb9⟩
        · have X1 := HB.out.low_ne HS.out hl
          by_cases hh : c = n ∧ e = d
          · have t1 : (c == n) = true := by simpa using hh.1
            have t2 : (e == d) = true := by simpa using hh.2
            have t3 : (a == n) = false ∨ ((a == n) = true ∧ (b == d) = false) := by
              by_cases h : a = n
              · exact .inr ⟨by simpa using h, by simp; exact fun e => hl ⟨h, e⟩⟩
              · exact .inl (by simpa using h)
            clear hl hh
            rcases t3 with t3 | ⟨t3, t4⟩
            all_goals
              go_wp2_with fail
              obtain ⟨A9, l9, c9, rfl⟩ := L.out.lg.slice
              have k3 : ∀ x os, (grow (redrawn wr x) os).cell? ⟨w.heap.size + 1 + 1, 3, none⟩ = some (.slice A9 l9 c9) := cell_regrown (L.out.lg.parts.1.at 3 _ rfl)
              have k4 : ∀ x os, (grow (redrawn wr x) os).cell? ⟨w.heap.size + 1 + 1, 4, none⟩ = some (.bool f) := cell_regrown (L.out.lg.parts.1.at 4 _ rfl)
              refine wp_region_quiet_below (by kernel_rfl) (by kernel_rfl) ?_
              repeat (first | go_big_quiet_step ((fail)) | quiet_step ((fail)))
              refine wpQuiet_nil ?_
              intro _ hw'
              obtain ⟨⟨dq, oq⟩, hw''⟩ := hw'
              subst hw''
              obtain ⟨w9, hW9⟩ : ∃ Wq, Wq = grow (redrawn wr dq) oq := ⟨_, rfl⟩
              have hb9 : Below wr.heap.size wr w9 := by rw [hW9]; exact below_regrown _ _ _
              rw [← hW9]
              clear hW9
              obtain ⟨hc9, hf9⟩ := bcell hb9
              have hy9 := hb9.size
              clear k3 k4
              go_wp2
              go_ret2
              exact ⟨_, _, rfl, L.out.lg.next hb9⟩
          · have Y1 := HB.out.high_ne HS.out hh
            obtain ⟨hbd, hed⟩ := HB.out.lt_den X1 Y1
            have t1 : (b == d) = false := by simp; omega
            have t2 : (e == d) = false := by simp; omega
            clear hl hh
            by_cases hm : b + e ≤ most
            · cases f
              · have HP : Hid (∀ W, Calls Tryz.prog 150 #[.agg #[.int .i64 a, .int .i64 b], .agg #[.int .i64 c, .int .i64 e], .int .i64 1] W fun x w' => x = .returned (.agg #[.int .i64 (a + c), .int .i64 (b + e)]) ∧ Below W.heap.size W w') := fun W => by
                  have h := l18Plus_any a b c e 1 W (by omega) (by omega) (by omega) (by omega)
                  rw [Int.one_mul, Int.one_mul] at h
                  exact h
                obtain ⟨m1', m2'⟩ := mul_bd (x := a + c) (y := d) (M := 400000) (N := 2000) (by omega) (by omega) (by omega) (by omega) (by omega) (by omega)
                obtain ⟨m3', m4'⟩ := mul_bd (x := n) (y := b + e) (M := 2000) (N := 120) (by omega) (by omega) (by omega) (by omega) (by omega) (by omega)
                have HL : Hid (∀ W, Calls Tryz.prog 131 #[.agg #[.int .i64 (a + c), .int .i64 (b + e)], .agg #[.int .i64 n, .int .i64 d]] W fun e' w' => e' = .returned (.bool (decide ((a + c) * d < n * (b + e)))) ∧ Below W.heap.size W w') := fun W => l02Less_any _ _ _ _ W (by omega) (by omega) (by omega) (by omega)
                clear m1' m2' m3' m4'
                go_wp2_with fail
                refine (HP.out _).mono ?_
                rintro x w3 ⟨rfl, hb3⟩
                have L3 := Lib.hid (L.out.next hb3)
                clear hb3 HP r0 r1 y0 y1 v0 v1 cf
                obtain ⟨r0, r1, _, _⟩ := (L3.out.next (ext1 w3 (.cells #[.int .i64 (a + c), .int .i64 (b + e)] 41))).f
                go_wp2_with fail
                refine (HL.out _).mono ?_
                rintro x w4 ⟨rfl, hb4⟩
                have L4 := Lib.hid ((L3.out.next (ext1 w3 (.cells #[.int .i64 (a + c), .int .i64 (b + e)] 41))).next hb4)
                clear hb4 HL r0 r1
                obtain ⟨y0, y1, _, _⟩ := L4.out.lo
                obtain ⟨v0, v1, _, _⟩ := L4.out.hi
                obtain ⟨E1, E2⟩ := HB.out.err
                by_cases hs : (a + c) * d < n * (b + e)
                · obtain ⟨K, hK, HB2, hmv, hdk⟩ := HB.out.goLow Y1 hm hs
                  have HB2 := Lib.hid HB2
                  have HR := Lib.hid (fun W (hW : LG w (w.heap.size + 1) (w.heap.size + 1 + 1) n d sec false v W) => run_any (w.heap.size + 1) (w.heap.size + 1 + 1) n d sec false v a b c e most _ _ K w W HS.out hW E1 E2 (by omega) X2 Y1 Y2 a1 a2 c1 c2 b1 b2 e1 e2 (by omega) hK hdk)
                  clear hK hdk E1 E2
                  obtain ⟨a', ha⟩ : ∃ a', a + K * c = a' := ⟨_, rfl⟩
                  obtain ⟨b', hb⟩ : ∃ b', b + K * e = b' := ⟨_, rfl⟩
                  rw [ha, hb] at HR HB2
                  rw [hb] at hmv
                  clear ha hb
                  have hmv := Lib.hid hmv
                  have hmm := Lib.hid (And.intro HB2.out.b2 HB2.out.e2)
                  go_wp2_with fail
                  refine (HR.out _ L4.out.lg).mono ?_
                  rintro x w5 ⟨rfl, f5, v5, hl5, hk5⟩
                  have L5 := Lib.hid (L4.out.saw hl5 hk5)
                  clear hl5 hk5 y0 y1 v0 v1 HR
                  obtain ⟨y0, y1, yf, _⟩ := L5.out.lo
                  have yf0 := yf 0
                  have yf1 := yf 1
                  clear yf
                  go_wp2_with fail
                  refine ⟨⟨a', b', c, e, f5, v5, HB2.out, L5.out.low a' b'⟩, ?_⟩
                  rw [(L5.out.low a' b').ms most, L.out.ms most]
                  have := hmv.out
                  have := hmm.out
                  omega
                · obtain ⟨K, hK, HB2, hmv, hdk⟩ := HB.out.goHigh X1 hm hs
                  have HB2 := Lib.hid HB2
                  have HR := Lib.hid (fun W (hW : LG w (w.heap.size + 1) (w.heap.size + 1 + 1) n d sec false v W) => run_any (w.heap.size + 1) (w.heap.size + 1 + 1) n d sec false v c e a b most _ _ K w W HS.out hW E2 E1 (by omega) Y2 X1 X2 c1 c2 a1 a2 e1 e2 b1 b2 (by omega) hK hdk)
                  clear hK hdk E1 E2
                  obtain ⟨a', ha⟩ : ∃ a', c + K * a = a' := ⟨_, rfl⟩
                  obtain ⟨b', hb⟩ : ∃ b', e + K * b = b' := ⟨_, rfl⟩
                  rw [ha, hb] at HR HB2
                  rw [hb] at hmv
                  clear ha hb
                  have hmv := Lib.hid hmv
                  have hmm := Lib.hid (And.intro HB2.out.b2 HB2.out.e2)
                  go_wp2_with fail
                  refine (HR.out _ L4.out.lg).mono ?_
                  rintro x w5 ⟨rfl, f5, v5, hl5, hk5⟩
                  have L5 := Lib.hid (L4.out.saw hl5 hk5)
                  clear hl5 hk5 y0 y1 v0 v1 HR
                  obtain ⟨v0, v1, vf, _⟩ := L5.out.hi
                  have vf0 := vf 0
                  have vf1 := vf 1
                  clear vf
                  go_wp2_with fail
                  refine ⟨⟨a, b, a', b', f5, v5, HB2.out, L5.out.high a' b'⟩, ?_⟩
                  rw [(L5.out.high a' b').ms most, L.out.ms most]
                  have := hmv.out
                  have := hmm.out
                  omega
              · skip
                go_wp2_with fail
                obtain ⟨A9, l9, c9, rfl⟩ := L.out.lg.slice
                have k3 : ∀ x os, (grow (redrawn wr x) os).cell? ⟨w.heap.size + 1 + 1, 3, none⟩ = some (.slice A9 l9 c9) := cell_regrown (L.out.lg.parts.1.at 3 _ rfl)
                have k4 : ∀ x os, (grow (redrawn wr x) os).cell? ⟨w.heap.size + 1 + 1, 4, none⟩ = some (.bool true) := cell_regrown (L.out.lg.parts.1.at 4 _ rfl)
                refine wp_region_quiet_below (by kernel_rfl) (by kernel_rfl) ?_
                repeat (first | go_big_quiet_step ((fail)) | quiet_step ((fail)))
                refine wpQuiet_nil ?_
                intro _ hw'
                obtain ⟨⟨dq, oq⟩, hw''⟩ := hw'
                subst hw''
                obtain ⟨w9, hW9⟩ : ∃ Wq, Wq = grow (redrawn wr dq) oq := ⟨_, rfl⟩
                have hb9 : Below wr.heap.size wr w9 := by rw [hW9]; exact below_regrown _ _ _
                rw [← hW9]
                clear hW9
                obtain ⟨hc9, hf9⟩ := bcell hb9
                have hy9 := hb9.size
                clear k3 k4
                go_wp2
                go_ret2
                exact ⟨_, _, rfl, L.out.lg.next hb9⟩
            · skip
              go_wp2_with fail
              obtain ⟨A9, l9, c9, rfl⟩ := L.out.lg.slice
              have k3 : ∀ x os, (grow (redrawn wr x) os).cell? ⟨w.heap.size + 1 + 1, 3, none⟩ = some (.slice A9 l9 c9) := cell_regrown (L.out.lg.parts.1.at 3 _ rfl)
              have k4 : ∀ x os, (grow (redrawn wr x) os).cell? ⟨w.heap.size + 1 + 1, 4, none⟩ = some (.bool f) := cell_regrown (L.out.lg.parts.1.at 4 _ rfl)
              refine wp_region_quiet_below (by kernel_rfl) (by kernel_rfl) ?_
              repeat (first | go_big_quiet_step ((fail)) | quiet_step ((fail)))
              refine wpQuiet_nil ?_
              intro _ hw'
              obtain ⟨⟨dq, oq⟩, hw''⟩ := hw'
              subst hw''
              obtain ⟨w9, hW9⟩ : ∃ Wq, Wq = grow (redrawn wr dq) oq := ⟨_, rfl⟩
              have hb9 : Below wr.heap.size wr w9 := by rw [hW9]; exact below_regrown _ _ _
              rw [← hW9]
              clear hW9
              obtain ⟨hc9, hf9⟩ := bcell hb9
              have hy9 := hb9.size
              clear k3 k4
              go_wp2
              go_ret2
              exact ⟨_, _, rfl, L.out.lg.next hb9⟩
end Go.Proofs.YtpgkellmhlmjeaaGreatDoor
