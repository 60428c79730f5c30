/- Parts of the proof, merged: DigIP DigTW. No condition but those that each theorem names. -/
import Derived.Test.YtjgafjbccfjojaaGreatMgAC
import Derived.Test.YtjgafjbccfjojaaGreatMgAB
namespace Go.Proofs.YtjgafjbccfjojaaGreat
open Go.RowKit Go.Sort
section
variable {T : Nat → Option Int} {base : Int} {count : Nat} {s s' : S4} {k : Nat} {out : List Int} {R : List Int × Nat × Int}
/-- The run from here on ends with R. -/
def DgR (T : Nat → Option Int) (base : Int) (count : Nat) (s : S4) (k : Nat) (out : List Int) (R : List Int × Nat × Int) : Prop := ∃ n, dg T base count n s k out = some R
theorem DgR.done (h : DgR T base count s k out R) (h1 : (decide (0 < k) && s.kn) = true) (h2 : count < out.length + 1) : R = (out ++ [s.q], k, 0) := by
  obtain ⟨n, h⟩ := h
  cases n with
  | zero => cases h
  | succ n => rw [dg, if_pos h1, if_pos h2] at h; exact (Option.some.inj h).symm
theorem DgR.tk0 (h : DgR T base count s k out R) (h1 : (decide (0 < k) && s.kn) = true) (h2 : ¬ count < out.length + 1) (h3 : s.tk base = none) : R = ([], 0, 5) := by
  obtain ⟨n, h⟩ := h
  cases n with
  | zero => cases h
  | succ n => rw [dg, if_pos h1, if_neg h2, h3] at h; exact (Option.some.inj h).symm
theorem DgR.tk1 (h : DgR T base count s k out R) (h1 : (decide (0 < k) && s.kn) = true) (h2 : ¬ count < out.length + 1) (h3 : s.tk base = some s') : DgR T base count s' k (out ++ [s.q]) R := by
  obtain ⟨n, h⟩ := h
  cases n with
  | zero => cases h
  | succ n => rw [dg, if_pos h1, if_neg h2, h3] at h; exact ⟨n, h⟩
theorem DgR.en (h : DgR T base count s k out R) (h1 : (decide (0 < k) && s.kn) = false) (h3 : T k = none) : DgR T base count s.enS.nrm k out R := by
  obtain ⟨n, h⟩ := h
  cases n with
  | zero => cases h
  | succ n => rw [dg, if_neg (by rw [h1]; simp), h3] at h; exact ⟨n, h⟩
theorem DgR.op {t : Int} (h : DgR T base count s k out R) (h1 : (decide (0 < k) && s.kn) = false) (h3 : T k = some t) (h4 : 1000 ≤ k) : R = ([], 0, 10) := by
  obtain ⟨n, h⟩ := h
  cases n with
  | zero => cases h
  | succ n => rw [dg, if_neg (by rw [h1]; simp), h3] at h; simp only [if_pos h4] at h; exact (Option.some.inj h).symm
theorem DgR.fd0 {t : Int} (h : DgR T base count s k out R) (h1 : (decide (0 < k) && s.kn) = false) (h3 : T k = some t) (h4 : ¬ 1000 ≤ k) (h5 : s.fd t = none) : R = ([], 0, 5) := by
  obtain ⟨n, h⟩ := h
  cases n with
  | zero => cases h
  | succ n => rw [dg, if_neg (by rw [h1]; simp), h3] at h; simp only [if_neg h4, h5] at h; exact (Option.some.inj h).symm
theorem DgR.fd1 {t : Int} (h : DgR T base count s k out R) (h1 : (decide (0 < k) && s.kn) = false) (h3 : T k = some t) (h4 : ¬ 1000 ≤ k) (h5 : s.fd t = some s') : DgR T base count s' (k + 1) out R := by
  obtain ⟨n, h⟩ := h
  cases n with
  | zero => cases h
  | succ n => rw [dg, if_neg (by rw [h1]; simp), h3] at h; simp only [if_neg h4, h5] at h; exact ⟨n, h⟩
theorem dgR_ex (hT0 : T 0 ≠ none) (hT : ∀ k t, T k = some t → 0 < k → 1 ≤ t) (hc : count ≤ 30) : ∃ R, DgR T base count ⟨1, 0, 0, 1⟩ 0 [] R := by
  obtain ⟨R, h⟩ := dg_run (base := base) hT0 hT hc
  exact ⟨R, _, h⟩
/-- What the run ends with. -/
theorem dg_end : ∀ (n : Nat) (s : S4) (k : Nat) (out : List Int), out.length ≤ count → dg T base count n s k out = some R → (R.2.2 = 0 ∧ R.1.length = count + 1) ∨ (R.1 = [] ∧ R.2.1 = 0 ∧ R.2.2 ≠ 0)
  | 0, _, _, _, _, h => by cases h
  | n + 1, s, k, out, ho, h => by
    rw [dg] at h
    split at h
    · split at h
      · injection h with h; subst h; left; exact ⟨rfl, by simp; omega⟩
      · split at h
        · injection h with h; subst h; right; exact ⟨rfl, rfl, by decide⟩
        · exact dg_end n _ _ _ (by simp; omega) h
    · split at h
      · exact dg_end n _ _ _ ho h
      · split at h
        · injection h with h; subst h; right; exact ⟨rfl, rfl, by decide⟩
        · split at h
          · injection h with h; subst h; right; exact ⟨rfl, rfl, by decide⟩
          · exact dg_end n _ _ _ ho h
theorem DgR.fin (h : DgR T base count s k out R) (ho : out.length ≤ count) : (R.2.2 = 0 ∧ R.1.length = count + 1) ∨ (R.1 = [] ∧ R.2.1 = 0 ∧ R.2.2 ≠ 0) := by
  obtain ⟨n, h⟩ := h
  exact dg_end n s k out ho h
theorem mu_tk {q : Int} (hi : SInv s k) (hk : 0 < k) (ht : s.tk base = some s') (h2 : ¬ count < out.length + 1) : muS count s' k (out ++ [q]) < muS count s k out := by
  obtain ⟨i1, i2⟩ := hi.tk hk ht
  unfold muS
  simp only [List.length_append, List.length_cons, List.length_nil]
  by_cases hf : s.flat
  · rw [if_pos (i2 hf), if_pos hf]; omega
  · rw [if_neg hf]
    split <;> omega
theorem not_flat (hi : SInv s k) (h1 : (decide (0 < k) && s.kn) = false) : ¬ s.flat := fun hf => by
  rcases hi.pos with ⟨_, rfl⟩ | ⟨e', h2, _⟩
  · unfold S4.flat at hf; simp at hf
  · have := S4.flat_kn hf h2
    rw [this] at h1
    simp at h1
    omega
theorem mu_en (hi : SInv s k) (hk : 0 < k) (h1 : (decide (0 < k) && s.kn) = false) : muS count s.enS.nrm k out < muS count s k out := by
  obtain ⟨i1, i2⟩ := hi.en hk
  unfold muS
  rw [if_pos i2, if_neg (not_flat hi h1)]
  omega
theorem mu_fd (hi : SInv s k) (hk : ¬ 1000 ≤ k) (h1 : (decide (0 < k) && s.kn) = false) : muS count s' (k + 1) out < muS count s k out := by
  unfold muS
  rw [if_neg (not_flat hi h1)]
  split <;> omega
end
/-- Terms behind the first are positive. -/
theorem tmS_pos {so : So} (h : soB so = true) {k : Nat} (hk : 0 < k) {t : Int} (ht : tmS so k = some t) : 1 ≤ t := by
  obtain ⟨⟨h1, h2, h3, h4⟩, h5, h6⟩ := so_at h
  unfold tmS at ht
  split at ht
  · rename_i hlt
    injection ht with ht
    have := h5 k hlt
    rw [if_neg (by omega)] at this
    omega
  · split at ht
    · cases ht
    · rename_i hp
      injection ht with ht
      have hm : (k - so.hd.length) % so.pd.length < so.pd.length := Nat.mod_lt _ (by omega)
      obtain ⟨⟨a1, a2⟩, a3, a4⟩ := h6 _ hm
      generalize (k - so.hd.length) / so.pd.length = q at *
      have b1 : 0 ≤ (q : Int) * so.gr.getD ((k - so.hd.length) % so.pd.length) 0 := Int.mul_nonneg (by omega) a3
      omega
/-- A product, or 0 where it is too great. -/
def mulV (x y : Int) : Int := if fitI x y = true then x * y else 0
theorem mulV_yes {x y : Int} (h : fitI x y = true) : mulV x y = x * y := if_pos h
theorem mulV_no {x y : Int} (h : fitI x y = false) : mulV x y = 0 := if_neg (by rw [h]; simp)
theorem mulV_bd (x y : Int) : -100000000000000000 ≤ mulV x y ∧ mulV x y ≤ 100000000000000000 := by
  cases h : fitI x y
  · rw [mulV_no h]; omega
  · rw [mulV_yes h]; exact fit_bd h
/-- What the program makes where a floor is taken out. -/
def S4.tkI (s : S4) (base : Int) : S4 := ⟨mulV base (s.a - mulV s.q s.c), mulV base (s.b - mulV s.q s.d), s.c, s.d⟩
def S4.tkB (s : S4) (base : Int) : Bool := !(fitI s.q s.c && fitI base (s.a - mulV s.q s.c) && fitI s.q s.d && fitI base (s.b - mulV s.q s.d))
theorem tk_flag (s : S4) (base : Int) : (s.tkB base || !(s.tkI base).nrm.low) = (s.tk base).isNone ∧ ∀ s', s.tk base = some s' → (s.tkI base).nrm = s' := by
  unfold S4.tk S4.tkB S4.tkF
  cases h1 : fitI s.q s.c
  · simp
  cases h2 : fitI s.q s.d
  · simp
  rw [mulV_yes h1, mulV_yes h2]
  cases h3 : fitI base (s.a - s.q * s.c)
  · simp
  cases h4 : fitI base (s.b - s.q * s.d)
  · simp
  have e : s.tkI base = s.tkS base := by unfold S4.tkI S4.tkS; rw [mulV_yes h1, mulV_yes h2, mulV_yes h3, mulV_yes h4]
  rw [e]
  cases (s.tkS base).nrm.low <;> simp
/-- .. where a term is fed. -/
def S4.fdI (s : S4) (t : Int) : S4 := ⟨mulV s.a t + s.b, s.a, mulV s.c t + s.d, s.c⟩
def S4.fdB (s : S4) (t : Int) : Bool := !(fitI s.a t && fitI s.c t)
theorem fd_flag (s : S4) (t : Int) : (s.fdB t || !(s.fdI t).nrm.low) = (s.fd t).isNone ∧ ∀ s', s.fd t = some s' → (s.fdI t).nrm = s' := by
  unfold S4.fd S4.fdB S4.fdF
  cases h1 : fitI s.a t
  · simp
  cases h2 : fitI s.c t
  · simp
  have e : s.fdI t = s.fdS t := by unfold S4.fdI S4.fdS; rw [mulV_yes h1, mulV_yes h2]
  rw [e]
  cases (s.fdS t).nrm.low <;> simp
/-- A cell of a world. -/
def celV (a : Addr) (w : World) : Value := (w.cell? a).getD (.bool false)
theorem celV_eq {a : Addr} {w : World} {v : Value} (h : w.cell? a = some v) : celV a w = v := by unfold celV; rw [h]; rfl
def lenV : Value → Nat
  | .slice _ n _ => n
  | _ => 0
/-- The rounds that are left, out of slots and world. -/
noncomputable def muW (count g : Nat) (v t : Value) (wr : World) : Nat := by
  classical exact 2 * (count + 1 - lenV v) + (1000 - (intOf t).toNat) + (if celV ⟨g, 0, none⟩ wr = celV ⟨g, 1, none⟩ wr ∧ celV ⟨g, 2, none⟩ wr = celV ⟨g, 3, none⟩ wr then 0 else 1)
theorem muW_eq {count g k c : Nat} {A : Option Addr} {s : S4} {out : List Int} {tl : List Value} {wr : World} (h : BoxV g (.int .i64 s.a :: .int .i64 s.b :: .int .i64 s.c :: .int .i64 s.d :: tl) wr) :
    muW count g (.slice A out.length c) (.int .i64 (k : Int)) wr = muS count s k out := by
  unfold muW muS
  rw [celV_eq (h.at 0 _ rfl), celV_eq (h.at 1 _ rfl), celV_eq (h.at 2 _ rfl), celV_eq (h.at 3 _ rfl)]
  have e : ((Value.int IntKind.i64 s.a = .int .i64 s.b ∧ Value.int IntKind.i64 s.c = .int .i64 s.d) ↔ s.flat) := by
    unfold S4.flat
    constructor
    · rintro ⟨h1, h2⟩
      injection h1 with _ h1
      injection h2 with _ h2
      exact ⟨h1, h2⟩
    · rintro ⟨h1, h2⟩
      rw [h1, h2]
      exact ⟨rfl, rfl⟩
  simp only [lenV, intOf, Int.toNat_natCast]
  by_cases hf : s.flat
  · rw [if_pos (e.2 hf), if_pos hf]
  · rw [if_neg (fun x => hf (e.1 x)), if_neg hf]
/-- What the digits' run returns. -/
def RetDg (w : World) (R : List Int × Nat × Int) (e : Ending) (w' : World) : Prop :=
  ∃ A c, e = .returned (.tuple #[.slice A R.1.length c, .int .i64 (R.2.1 : Int), .int .i64 R.2.2]) ∧ Wr (Value.int .i64) w' w.heap.size A R.1 ∧ (R.1.length ≤ c ∧ c ≤ maxLen) ∧ Below w.heap.size w w'
theorem RetDg.nil_ {w w' : World} {c : Int} (h : Below w.heap.size w w') : RetDg w ([], 0, c) (.returned (.tuple #[.slice none 0 0, .int .i64 0, .int .i64 c])) w' :=
  ⟨none, 0, rfl, fun h => absurd h (by simp), ⟨Nat.le_refl _, Nat.zero_le _⟩, h⟩
theorem own_fullD {w : World} {base : Nat} {v : Value} {xs : List Int} (h : w.ownsRow base 2 1 v xs.length (xs.map (Value.int .i64))) : ∃ A c, v = .slice A xs.length c ∧ Wr (Value.int .i64) w base A xs ∧ xs.length ≤ c ∧ c ≤ maxLen := by
  obtain ⟨_, A, c, e, g⟩ := Wr.of_own h
  refine ⟨A, c, e, g, ?_⟩
  rcases h.2 with ⟨e2, h0⟩ | ⟨g', cap, cur, e2, _, _, hc, hm, _⟩
  · rw [e] at e2
    injection e2 with _ _ e3
    rw [e3, h0]
    exact ⟨Nat.le_refl _, Nat.zero_le _⟩
  · rw [e] at e2
    injection e2 with _ _ e3
    rw [e3]
    exact ⟨hc, hm⟩
/-- What holds in the program's run: the source's box, the state's box, the row. -/
structure DgI (w : World) (X : List Value) (s : S4) (f : Bool) (out : List Int) (v : Value) (wr : World) : Prop where
  bx : BoxV w.heap.size X wr
  bs : BoxV (w.heap.size + 1) (dsC s f) wr
  own : wr.ownsRow (w.heap.size + 2) 2 1 v out.length (out.map (Value.int .i64))
  below : Below w.heap.size w wr
  lt : w.heap.size + 2 ≤ wr.heap.size
section
variable {w : World} {X : List Value} {s s' : S4} {f f' : Bool} {out : List Int} {v : Value} {wr w2 : World}
theorem DgI.next (h : DgI w X s f out v wr) (hb : Below wr.heap.size wr w2) : DgI w X s f out v w2 :=
  ⟨h.bx.next hb, h.bs.next hb, own_below h.own hb, ext_trans h.below hb, Nat.le_trans h.lt hb.size⟩
theorem DgI.drew (h : DgI w X s f out v wr) : DgI w X s f out v wr.drew := h.next (ext_drew (Below.refl _ _))
theorem DgI.grow (h : DgI w X s f out v wr) (hg : wr.grownBy w2 (some (w.heap.size + 1))) (hb : BoxV (w.heap.size + 1) (dsC s' f') w2) : DgI w X s' f' out v w2 :=
  ⟨h.bx.grown hg (by simp), hb, h.own.kept hg (.inr fun e => by have := (h.own.lt _ e).1; omega), h.below.grown hg h.below.size (fun k hk => by injection hk with hk; omega), Nat.le_trans h.lt hg.size⟩
theorem DgI.push (h : DgI w X s f out v wr) {a : Int} (v' : Value) (w3 : World) {o : Obj} (hown3 : w3.ownsRow (w.heap.size + 2) 2 1 v' (out.length + 1) (out.map (Value.int .i64) ++ [.int .i64 a])) (hg : (wr.alloc o).grownBy w3 v.ownBlock) : DgI w X s f (out ++ [a]) v' w3 := by
  have hf : ∀ k, some k = v.ownBlock → w.heap.size + 2 ≤ k := fun k hk => (h.own.lt k hk.symm).1
  refine ⟨(h.bx.alloc o).grown hg (fun e => by have := hf _ e.symm; omega), (h.bs.alloc o).grown hg (fun e => by have := hf _ e.symm; omega), by simpa using hown3, below_grown (ext_alloc h.below o) (h.own.alloc o) (by omega) hg, ?_⟩
  have := hg.size
  have := h.lt
  simp at *
  omega
end
end Go.Proofs.YtjgafjbccfjojaaGreat
namespace Go.Proofs.YtjgafjbccfjojaaGreat
open Go.RowKit Go.Sort
@[reducible] def sC (s : S4) (fed : Int) (ok : Bool) : List Value := [.int .i64 s.a, .int .i64 s.b, .int .i64 s.c, .int .i64 s.d, .int .i64 fed, .bool ok]
set_option maxRecDepth 100000 in
set_option maxHeartbeats 3000000 in
theorem sset_any (g : Nat) (s t : S4) (fed : Int) (ok : Bool) (w : World) (hb : BoxV g (sC t fed ok) w) (M : -1000000000000000000 ≤ s.a ∧ s.a ≤ 1000000000000000000) (M2 : -1000000000000000000 ≤ s.b ∧ s.b ≤ 1000000000000000000) (M3 : -1000000000000000000 ≤ s.c ∧ s.c ≤ 1000000000000000000) (M4 : -1000000000000000000 ≤ s.d ∧ s.d ≤ 1000000000000000000) (hg : 0 < s.g) :
    Calls Tryz.prog 84 #[.pointer (some ⟨g, 0, none⟩), .int .i64 s.a, .int .i64 s.b, .int .i64 s.c, .int .i64 s.d] w fun e w' => e = .returned (.tuple #[]) ∧ BoxV g (sC s.nrm fed (ok && s.nrm.low)) w' ∧ w.grownBy w' (some g) := by
  obtain ⟨a1, a2⟩ := M
  obtain ⟨b1, b2⟩ := M2
  obtain ⟨c1, c2⟩ := M3
  obtain ⟨d1, d2⟩ := M4
  have hg1 : Int.gcd s.a s.b ≤ 1000000000000000000 := gcd_le (by omega) (by omega)
  have hg2 : Int.gcd s.c s.d ≤ 1000000000000000000 := gcd_le (by omega) (by omega)
  have hg3 : s.g ≤ 1000000000000000000 := by
    have := Nat.gcd_le_left (m := Int.gcd s.a s.b) (Int.gcd s.c s.d)
    have e : s.g = Nat.gcd (Int.gcd s.a s.b) (Int.gcd s.c s.d) := rfl
    rcases Nat.eq_zero_or_pos (Int.gcd s.a s.b) with h0 | h0
    · rw [e, h0, Nat.gcd_zero_left]; exact hg2
    · have := this h0; omega
  obtain ⟨p1, p2⟩ := tdiv_nat_bd (g := s.g) a1 a2
  obtain ⟨p3, p4⟩ := tdiv_nat_bd (g := s.g) b1 b2
  obtain ⟨p5, p6⟩ := tdiv_nat_bd (g := s.g) c1 c2
  obtain ⟨p7, p8⟩ := tdiv_nat_bd (g := s.g) d1 d2
  have HNR : Hid (s.nrm = ⟨s.a.tdiv s.g, s.b.tdiv s.g, s.c.tdiv s.g, s.d.tdiv s.g⟩) := rfl
  have S1 := Lib.hid (fun W : World => l02Size_any s.a W (by omega) (by omega))
  have S2 := Lib.hid (fun W : World => l02Size_any s.b W (by omega) (by omega))
  have S3 := Lib.hid (fun W : World => l02Size_any s.c W (by omega) (by omega))
  have S4' := Lib.hid (fun W : World => l02Size_any s.d W (by omega) (by omega))
  have G1 : Hid (∀ W : World, Calls Tryz.prog 70 #[.int .i64 (s.a.natAbs : Int), .int .i64 (s.b.natAbs : Int)] W fun e w' => e = .returned (.int .i64 (Int.gcd s.a s.b : Int)) ∧ W = w') := fun W => l02Gcd_any s.a.natAbs s.b.natAbs W (by omega) (by omega)
  have G2 : Hid (∀ W : World, Calls Tryz.prog 70 #[.int .i64 (s.c.natAbs : Int), .int .i64 (s.d.natAbs : Int)] W fun e w' => e = .returned (.int .i64 (Int.gcd s.c s.d : Int)) ∧ W = w') := fun W => l02Gcd_any s.c.natAbs s.d.natAbs W (by omega) (by omega)
  have G3 : Hid (∀ W : World, Calls Tryz.prog 70 #[.int .i64 (Int.gcd s.a s.b : Int), .int .i64 (Int.gcd s.c s.d : Int)] W fun e w' => e = .returned (.int .i64 (s.g : Int)) ∧ W = w') := fun W => l02Gcd_any (Int.gcd s.a s.b) (Int.gcd s.c s.d) W (by omega) (by omega)
  have A1 := Lib.hid (fun W : World => l02Size_any (s.a.tdiv s.g) W (by omega) (by omega))
  have A2 := Lib.hid (fun W : World => l02Size_any (s.b.tdiv s.g) W (by omega) (by omega))
  have A3 := Lib.hid (fun W : World => l02Size_any (s.c.tdiv s.g) W (by omega) (by omega))
  have A4 := Lib.hid (fun W : World => l02Size_any (s.d.tdiv s.g) W (by omega) (by omega))
  have v1 : IntKind.i64.wrap (s.a.tdiv (s.g : Int)) = s.a.tdiv (s.g : Int) := IntWalk.i64_in _ (by omega)
  have v2 : IntKind.i64.wrap (s.b.tdiv (s.g : Int)) = s.b.tdiv (s.g : Int) := IntWalk.i64_in _ (by omega)
  have v3 : IntKind.i64.wrap (s.c.tdiv (s.g : Int)) = s.c.tdiv (s.g : Int) := IntWalk.i64_in _ (by omega)
  have v4 : IntKind.i64.wrap (s.d.tdiv (s.g : Int)) = s.d.tdiv (s.g : Int) := IntWalk.i64_in _ (by omega)
  have e0 : ¬ ((s.g : Int) = 0) := by omega
  have e0n : ¬ (s.g = 0) := by omega
  have x0 := hb.at 0 _ rfl
  have x1 := hb.at 1 _ rfl
  have x2 := hb.at 2 _ rfl
  have x3 := hb.at 3 _ rfl
  have f0 := hb.f 0
  have f1 := hb.f 1
  have f2 := hb.f 2
  have f3 := hb.f 3
  have HB := Lib.hid hb
  clear hb hg hg1 hg2
  generalize (s.a.natAbs : Int) = y1 at *
  generalize (s.b.natAbs : Int) = y2 at *
  generalize (s.c.natAbs : Int) = y3 at *
  generalize (s.d.natAbs : Int) = y4 at *
  generalize (Int.gcd s.a s.b : Int) = y5 at *
  generalize (Int.gcd s.c s.d : Int) = y6 at *
  go_enter Tryz.func84, Tryz.ntmps84
  go_wp2_with (first | (go_at_call 71; (with_reducible refine (S1.out _).mono ?_); rintro e w' ⟨rfl, rfl⟩) | (go_at_call 71; (with_reducible refine (S2.out _).mono ?_); rintro e w' ⟨rfl, rfl⟩) | (go_at_call 71; (with_reducible refine (S3.out _).mono ?_); rintro e w' ⟨rfl, rfl⟩) | (go_at_call 71; (with_reducible refine (S4'.out _).mono ?_); rintro e w' ⟨rfl, rfl⟩) | (go_at_call 70; (with_reducible refine (G1.out _).mono ?_); rintro e w' ⟨rfl, rfl⟩) | (go_at_call 70; (with_reducible refine (G2.out _).mono ?_); rintro e w' ⟨rfl, rfl⟩) | (go_at_call 70; (with_reducible refine (G3.out _).mono ?_); rintro e w' ⟨rfl, rfl⟩))
  clear v1 v2 v3 v4 e0 e0n hg3 x0 x1 x2 x3 f0 f1 f2 f3 S1 S2 S3 S4' G1 G2 G3
  generalize s.a.tdiv (s.g : Int) = na at *
  generalize s.b.tdiv (s.g : Int) = nb at *
  generalize s.c.tdiv (s.g : Int) = nc at *
  generalize s.d.tdiv (s.g : Int) = nd at *
  have B5 : Hid (BoxV g (sC ⟨na, nb, nc, nd⟩ fed ok) ((((w.setCell ⟨g, 0, none⟩ (.int .i64 na)).setCell ⟨g, 1, none⟩ (.int .i64 nb)).setCell ⟨g, 2, none⟩ (.int .i64 nc)).setCell ⟨g, 3, none⟩ (.int .i64 nd))) :=
    (((HB.out.set 0 (.int .i64 na) (by simp)).set 1 (.int .i64 nb) (by simp)).set 2 (.int .i64 nc) (by simp)).set 3 (.int .i64 nd) (by simp)
  have HG5 : Hid (w.grownBy ((((w.setCell ⟨g, 0, none⟩ (.int .i64 na)).setCell ⟨g, 1, none⟩ (.int .i64 nb)).setCell ⟨g, 2, none⟩ (.int .i64 nc)).setCell ⟨g, 3, none⟩ (.int .i64 nd)) (some g)) :=
    Go.Lib.grownBy_setB (Go.Lib.grownBy_setB (Go.Lib.grownBy_setB (Go.Lib.grownBy_setB (World.grownBy.refl w _) 0 _) 1 _) 2 _) 3 _
  generalize ((((w.setCell ⟨g, 0, none⟩ (.int .i64 na)).setCell ⟨g, 1, none⟩ (.int .i64 nb)).setCell ⟨g, 2, none⟩ (.int .i64 nc)).setCell ⟨g, 3, none⟩ (.int .i64 nd)) = W5 at *
  clear HB
  have x0 := B5.out.at 0 _ rfl
  have x1 := B5.out.at 1 _ rfl
  have x2 := B5.out.at 2 _ rfl
  have x3 := B5.out.at 3 _ rfl
  have x5 := B5.out.at 5 _ rfl
  have f5 := B5.out.f 5
  cases l0 : lowI na
  · have d0 : decide ((100000000000000000 : Int) < (na.natAbs : Int)) = true := by rw [lowI_abs, l0]; rfl
    have D := Lib.hid (show BoxV g (sC ⟨na, nb, nc, nd⟩ fed (ok && S4.low ⟨na, nb, nc, nd⟩)) (W5.setCell ⟨g, 5, none⟩ (.bool false)) from by rw [show S4.low ⟨na, nb, nc, nd⟩ = false from by unfold S4.low; simp only; rw [l0]; simp, Bool.and_false]; exact B5.out.set 5 _ (by simp))
    clear l0
    generalize (na.natAbs : Int) = z0 at *
    refine (A1.out _).mono ?_
    rintro e w' ⟨rfl, rfl⟩
    go_wp2_with (first | (go_at_call 71; (with_reducible refine (A1.out _).mono ?_); rintro e w' ⟨rfl, rfl⟩) | (go_at_call 71; (with_reducible refine (A2.out _).mono ?_); rintro e w' ⟨rfl, rfl⟩) | (go_at_call 71; (with_reducible refine (A3.out _).mono ?_); rintro e w' ⟨rfl, rfl⟩) | (go_at_call 71; (with_reducible refine (A4.out _).mono ?_); rintro e w' ⟨rfl, rfl⟩))
    go_end0
    rw [HNR.out]
    exact ⟨rfl, D.out, Go.Lib.grownBy_setB HG5.out 5 _⟩
  · have d0 : decide ((100000000000000000 : Int) < (na.natAbs : Int)) = false := by rw [lowI_abs, l0]; rfl
    generalize (na.natAbs : Int) = z0 at *
    refine (A1.out _).mono ?_
    rintro e w' ⟨rfl, rfl⟩
    cases l1 : lowI nb
    · have d1 : decide ((100000000000000000 : Int) < (nb.natAbs : Int)) = true := by rw [lowI_abs, l1]; rfl
      have D := Lib.hid (show BoxV g (sC ⟨na, nb, nc, nd⟩ fed (ok && S4.low ⟨na, nb, nc, nd⟩)) (W5.setCell ⟨g, 5, none⟩ (.bool false)) from by rw [show S4.low ⟨na, nb, nc, nd⟩ = false from by unfold S4.low; simp only; rw [l1]; simp, Bool.and_false]; exact B5.out.set 5 _ (by simp))
      clear l0 l1
      generalize (nb.natAbs : Int) = z1 at *
      go_wp2_with (first | (go_at_call 71; (with_reducible refine (A1.out _).mono ?_); rintro e w' ⟨rfl, rfl⟩) | (go_at_call 71; (with_reducible refine (A2.out _).mono ?_); rintro e w' ⟨rfl, rfl⟩) | (go_at_call 71; (with_reducible refine (A3.out _).mono ?_); rintro e w' ⟨rfl, rfl⟩) | (go_at_call 71; (with_reducible refine (A4.out _).mono ?_); rintro e w' ⟨rfl, rfl⟩))
      go_end0
      rw [HNR.out]
      exact ⟨rfl, D.out, Go.Lib.grownBy_setB HG5.out 5 _⟩
    · have d1 : decide ((100000000000000000 : Int) < (nb.natAbs : Int)) = false := by rw [lowI_abs, l1]; rfl
      generalize (nb.natAbs : Int) = z1 at *
      cases l2 : lowI nc
      · have d2 : decide ((100000000000000000 : Int) < (nc.natAbs : Int)) = true := by rw [lowI_abs, l2]; rfl
        have D := Lib.hid (show BoxV g (sC ⟨na, nb, nc, nd⟩ fed (ok && S4.low ⟨na, nb, nc, nd⟩)) (W5.setCell ⟨g, 5, none⟩ (.bool false)) from by rw [show S4.low ⟨na, nb, nc, nd⟩ = false from by unfold S4.low; simp only; rw [l2]; simp, Bool.and_false]; exact B5.out.set 5 _ (by simp))
        clear l0 l1 l2
        generalize (nc.natAbs : Int) = z2 at *
        go_wp2_with (first | (go_at_call 71; (with_reducible refine (A1.out _).mono ?_); rintro e w' ⟨rfl, rfl⟩) | (go_at_call 71; (with_reducible refine (A2.out _).mono ?_); rintro e w' ⟨rfl, rfl⟩) | (go_at_call 71; (with_reducible refine (A3.out _).mono ?_); rintro e w' ⟨rfl, rfl⟩) | (go_at_call 71; (with_reducible refine (A4.out _).mono ?_); rintro e w' ⟨rfl, rfl⟩))
        go_end0
        rw [HNR.out]
        exact ⟨rfl, D.out, Go.Lib.grownBy_setB HG5.out 5 _⟩
      · have d2 : decide ((100000000000000000 : Int) < (nc.natAbs : Int)) = false := by rw [lowI_abs, l2]; rfl
        generalize (nc.natAbs : Int) = z2 at *
        cases l3 : lowI nd
        · have d3 : decide ((100000000000000000 : Int) < (nd.natAbs : Int)) = true := by rw [lowI_abs, l3]; rfl
          have D := Lib.hid (show BoxV g (sC ⟨na, nb, nc, nd⟩ fed (ok && S4.low ⟨na, nb, nc, nd⟩)) (W5.setCell ⟨g, 5, none⟩ (.bool false)) from by rw [show S4.low ⟨na, nb, nc, nd⟩ = false from by unfold S4.low; simp only; rw [l3]; simp, Bool.and_false]; exact B5.out.set 5 _ (by simp))
          clear l0 l1 l2 l3
          generalize (nd.natAbs : Int) = z3 at *
          go_wp2_with (first | (go_at_call 71; (with_reducible refine (A1.out _).mono ?_); rintro e w' ⟨rfl, rfl⟩) | (go_at_call 71; (with_reducible refine (A2.out _).mono ?_); rintro e w' ⟨rfl, rfl⟩) | (go_at_call 71; (with_reducible refine (A3.out _).mono ?_); rintro e w' ⟨rfl, rfl⟩) | (go_at_call 71; (with_reducible refine (A4.out _).mono ?_); rintro e w' ⟨rfl, rfl⟩))
          go_end0
          rw [HNR.out]
          exact ⟨rfl, D.out, Go.Lib.grownBy_setB HG5.out 5 _⟩
        · have d3 : decide ((100000000000000000 : Int) < (nd.natAbs : Int)) = false := by rw [lowI_abs, l3]; rfl
          generalize (nd.natAbs : Int) = z3 at *
          have D := Lib.hid (show BoxV g (sC ⟨na, nb, nc, nd⟩ fed (ok && S4.low ⟨na, nb, nc, nd⟩)) W5 from by rw [show S4.low ⟨na, nb, nc, nd⟩ = true from by unfold S4.low; simp only; rw [l0, l1, l2, l3]; rfl, Bool.and_true]; exact B5.out)
          clear l0 l1 l2 l3
          go_wp2_with (first | (go_at_call 71; (with_reducible refine (A1.out _).mono ?_); rintro e w' ⟨rfl, rfl⟩) | (go_at_call 71; (with_reducible refine (A2.out _).mono ?_); rintro e w' ⟨rfl, rfl⟩) | (go_at_call 71; (with_reducible refine (A3.out _).mono ?_); rintro e w' ⟨rfl, rfl⟩) | (go_at_call 71; (with_reducible refine (A4.out _).mono ?_); rintro e w' ⟨rfl, rfl⟩))
          go_end0
          rw [HNR.out]
          exact ⟨rfl, D.out, HG5.out⟩
end Go.Proofs.YtjgafjbccfjojaaGreat
