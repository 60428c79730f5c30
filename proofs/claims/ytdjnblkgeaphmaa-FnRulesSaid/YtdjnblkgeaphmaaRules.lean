/- Law: rules for a year go less wrong one after the other, and the share of divisors is the share of the years that they name. No condition. -/
import Derived.Test.YtdjnblkgeaphmaaBytesW
import Derived.Test.YtdjnblkgeaphmaaF6W
import Derived.Test.YtdjnblkgeaphmaaRuP
import Derived.Test.YtdjnblkgeaphmaaMakeW
import Derived.Test.YtdjnblkgeaphmaaDriftOfW
import Derived.Test.YtdjnblkgeaphmaaDrawRvW
import Derived.Deep.DeepCutAuto
namespace Go.Proofs.Ytdjnblkgeaphmaa.fnRules
open Go.ChangeShapes Go.WideShapes Go.ChangeAt Go.RowKit Go.Sort
open Go.ChangeMaps (open_string shut_string)

theorem rd_next {α : Type} {enc : α → Value} {W W' : World} {A : Option Addr} {xs : List α} (h : Rd enc W W.heap.size A xs) (hb : Below W.heap.size W W') : Rd enc W' W'.heap.size A xs := (h.below hb).more hb.size
theorem yt_nonneg (l c s n d : Int) : 0 ≤ ytA l c s n d := by
  unfold ytA
  split
  · rename_i h
    unfold ytC at h
    split at h
    · rename_i hb
      split at h
      · cases h
      · rename_i hd
        unfold ytB at hb
        rw [Bool.and_eq_true] at hb
        obtain ⟨c1, _⟩ := ruleOk_true.1 hb.1
        obtain ⟨d1, _⟩ := fracOk_true.1 (lenOk_true.1 hb.2).1
        have q0 : 0 ≤ c * d := Int.mul_nonneg (by omega) (by omega)
        exact Int.ediv_nonneg (by omega) (by omega)
    · cases h
  · exact Int.le_refl _
theorem rules (n d m : Int) : ∃ (L : List (Int × Int)) (k : Int), Hid (∀ W, Calls Try.prog 30 #[fracV n d, .int .i64 m] W (RetRules W L k)) ∧ Hid (∀ W, Calls Try.prog 31 #[fracV n d, .int .i64 m] W (RetRules W L k)) ∧
    L.length ≤ 1000000000000000 ∧ Hid (∀ x ∈ L, ruleOk x.1 x.2 0 = true ∧ x.2 ≤ m) ∧ Hid (L.Pairwise (upR n d)) := by
  refine ⟨_, _, iRulesFor_any n d m, sRulesFor_any n d m, ruX_length n d m, ?_, ?_⟩
  · by_cases h : ruC n d m = 0
    · exact (rules_ok h).1
    · intro x hx
      rw [ruX, if_neg h] at hx
      cases hx
  · by_cases h : ruC n d m = 0
    · exact (rules_ok h).2
    · show (ruX n d m).Pairwise _
      rw [ruX, if_neg h]
      exact List.Pairwise.nil
theorem drifts (l c s n d y : Int) : ∃ a b k : Int, Hid (∀ W, Calls Try.prog 33 #[ruleV l c s, fracV n d, .int .i64 y] W fun e w' => e = .returned (.tuple #[fracV a b, .int .i64 k]) ∧ Below W.heap.size W w') ∧
    Hid (∀ W, Calls Try.prog 34 #[ruleV l c s, fracV n d, .int .i64 y] W fun e w' => e = .returned (.tuple #[fracV a b, .int .i64 k]) ∧ Below W.heap.size W w') :=
  ⟨_, _, _, iDriftOf_any l c s n d y, sDriftOf_any l c s n d y⟩
theorem years (l c s n d : Int) : ∃ a k : Int, Hid (∀ W, Calls Try.prog 36 #[ruleV l c s, fracV n d] W fun e w' => e = .returned (.tuple #[.int .i64 a, .int .i64 k]) ∧ Below W.heap.size W w') ∧
    Hid (∀ W, Calls Try.prog 37 #[ruleV l c s, fracV n d] W fun e w' => e = .returned (.tuple #[.int .i64 a, .int .i64 k]) ∧ Below W.heap.size W w') :=
  ⟨_, _, iYears_any l c s n d, sYears_any l c s n d⟩
theorem divs (xs : List Int) (y : Int) (hl : xs.length ≤ 9) : ∃ (b : Bool) (k : Int), Hid (∀ (A : Option Addr) (c : Nat) W, Rd (Value.int .i64) W W.heap.size A xs → Calls Try.prog 39 #[.slice A xs.length c, .int .i64 y] W fun e w' => e = .returned (.tuple #[.bool b, .int .i64 k]) ∧ Below W.heap.size W w') ∧
    Hid (∀ (A : Option Addr) (c : Nat) W, Rd (Value.int .i64) W W.heap.size A xs → Calls Try.prog 40 #[.slice A xs.length c, .int .i64 y] W fun e w' => e = .returned (.tuple #[.bool b, .int .i64 k]) ∧ Below W.heap.size W w') :=
  ⟨_, _, fun A c W h => iDivisorRule_any A c xs y W h, fun A c W h => sDivisorRule_any A c xs y W h (by omega)⟩
theorem shares (xs : List Int) (hl : xs.length ≤ 9) : ∃ (a b k : Int), Hid (∀ (A : Option Addr) (c : Nat) W, Rd (Value.int .i64) W W.heap.size A xs → Calls Try.prog 42 #[.slice A xs.length c] W fun e w' => e = .returned (.tuple #[fracV a b, .int .i64 k]) ∧ Below W.heap.size W w') ∧
    Hid (∀ (A : Option Addr) (c : Nat) W, Rd (Value.int .i64) W W.heap.size A xs → Calls Try.prog 43 #[.slice A xs.length c] W fun e w' => e = .returned (.tuple #[fracV a b, .int .i64 k]) ∧ Below W.heap.size W w') ∧
    Hid (k = divCode true xs ∧ a = shareN xs ∧ b = shareD xs) :=
  ⟨_, _, _, fun A c W h => iDivisorShare_any A c xs W h trivial, fun A c W h => sDivisorShare_any A c xs W h (by omega), rfl, rfl, rfl⟩
/-- What is known of the share when there is one. -/
theorem share_good {xs : List Int} {a b k : Int} (h : k = divCode true xs ∧ a = shareN xs ∧ b = shareD xs) (hk : k = 0) :
    ∃ l : Int, xs[xs.length - 1]? = some l ∧ 1 ≤ xs.length ∧ 1 ≤ l ∧ l ≤ 100000 ∧ Hid (∀ y : Int, 0 ≤ y → y ≤ 100000 → divCode (inR y 0 100000) xs = 0) ∧ Hid (pairsOk xs = true) ∧
      Hid (∀ W, Calls Try.prog 45 #[.int .i64 (sumA xs l.toNat), .int .i64 l] W fun e w' => e = .returned (.tuple #[fracV a b, .int .i64 0]) ∧ Below W.heap.size W w') := by
  obtain ⟨rfl, rfl, rfl⟩ := h
  obtain ⟨_, n1, n2, hall⟩ := divCode_zero hk
  obtain ⟨hp, l1, l2, hs⟩ := share_sum hk
  have hl : xs[xs.length - 1]? = some (lastOf xs) := by
    unfold lastOf
    rw [List.getD_eq_getElem?_getD, List.getElem?_eq_getElem (by omega)]; rfl
  obtain ⟨s1, s2⟩ := shr_bd (l := lastOf xs) (by omega) l2 hall xs.length (Nat.le_refl _)
  refine ⟨lastOf xs, hl, by omega, l1, l2, fun y h1 h2 => ?_, hp, fun W => ?_⟩
  · rw [inR_true.2 ⟨h1, h2⟩]; exact hk
  · have h := iMake_good (sumA xs (lastOf xs).toNat) (lastOf xs) W l1 (by omega) (by rw [hs]; omega) (by rw [hs]; omega)
    rw [shareN, shareD, if_pos hk, if_pos hk, ← hs]
    exact h
theorem rd_rule {W : World} {A : Option Addr} {L : List (Int × Int)} (h : Rd (Value.int .i64) W W.heap.size A (ruL L)) (h0 : 0 < L.length) :
    ∃ b off, A = some ⟨b, off, none⟩ ∧ Hid (∀ W', Below W.heap.size W W' → ∀ k p q, L[k]? = some (p, q) → W'.cell? ⟨b, off + k * 3, none⟩ = some (.int .i64 p) ∧ W'.cell? ⟨b, off + k * 3 + 1, none⟩ = some (.int .i64 q) ∧ W'.cell? ⟨b, off + k * 3 + 2, none⟩ = some (.int .i64 0)) := by
  have hlen := ruL_length L
  obtain ⟨b, off, rfl, hb, hc⟩ := h (by omega)
  refine ⟨b, off, rfl, fun W' hW k p q hk => ?_⟩
  obtain ⟨g0, g1, g2⟩ := ruL_get hk
  have c0 := (hW.cell (p := ⟨b, off + k * 3, none⟩) hb).trans (hc _ _ g0)
  have c1 := (hW.cell (p := ⟨b, off + (k * 3 + 1), none⟩) hb).trans (hc _ _ g1)
  have c2 := (hW.cell (p := ⟨b, off + (k * 3 + 2), none⟩) hb).trans (hc _ _ g2)
  rw [← Nat.add_assoc] at c1 c2
  exact ⟨c0, c1, c2⟩
theorem valid_is {p q : Int} (h : ruleOk p q 0 = true) (W : World) : Calls Try.prog 44 #[ruleV p q 0] W fun e w' => e = .returned (.bool true) ∧ Below W.heap.size W w' := h ▸ ValidRule_any p q 0 W
theorem round_ok {L : List (Int × Int)} {n d m v : Int} {k : Nat} {p q : Int} (h1 : ∀ x ∈ L, ruleOk x.1 x.2 0 = true ∧ x.2 ≤ m) (h2 : L.Pairwise (upR n d)) (hk : L[k]? = some (p, q)) (hv : ∀ x, L[k]? = some x → ytC x.1 x.2 0 n d = 0 → v ≤ ytA x.1 x.2 0 n d) :
    Hid (∀ W, Calls Try.prog 44 #[ruleV p q 0] W fun e w' => e = .returned (.bool true) ∧ Below W.heap.size W w') ∧
    ∃ a c : Int, Hid (∀ W, Calls Try.prog 36 #[ruleV p q 0, fracV n d] W fun e w' => e = .returned (.tuple #[.int .i64 a, .int .i64 c]) ∧ Below W.heap.size W w') ∧ q ≤ m ∧
      ((c == 0) = true ∧ v ≤ a ∨ (c == 0) = false) ∧ Hid (∀ x, L[k + 1]? = some x → ytC x.1 x.2 0 n d = 0 → a ≤ ytA x.1 x.2 0 n d) := by
  obtain ⟨hl, he⟩ := List.getElem?_eq_some_iff.1 hk
  obtain ⟨o1, o2⟩ := h1 _ (List.mem_of_getElem? hk)
  refine ⟨fun W => ?_, ytA p q 0 n d, ytC p q 0 n d, fun W => iYears_any p q 0 n d W, o2, ?_, fun x hx hc => ?_⟩
  · exact valid_is o1 W
  · by_cases h : ytC p q 0 n d = 0
    · exact .inl ⟨by simpa using h, hv _ hk h⟩
    · exact .inr (by simpa using h)
  · obtain ⟨hl', he'⟩ := List.getElem?_eq_some_iff.1 hx
    have hu := List.pairwise_iff_getElem.1 h2 k (k + 1) hl hl' (by omega)
    rw [he, he'] at hu
    have h := years_up (n := n) (d := d) (x := (p, q)) (y := x) o1 hu hc
    simp only at h
    exact h
theorem div_is {xs : List Int} {y : Int} {g : Bool} (h : divCode (inR y 0 100000) xs = 0) (A : Option Addr) (c : Nat) (W : World) (hx : Rd (Value.int .i64) W W.heap.size A xs) (hg : divOdd y xs = g) :
    Calls Try.prog 39 #[.slice A xs.length c, .int .i64 y] W fun e w' => e = .returned (.tuple #[.bool g, .int .i64 0]) ∧ Below W.heap.size W w' := by
  have h2 := iDivisorRule_any A c xs y W hx
  rw [h, hg] at h2
  simpa using h2
theorem div_step {xs : List Int} (h : pairsOk xs = true) (k : Nat) {v : Int} (hv : v = sumA xs k) : ∃ g, divOdd (k : Int) xs = g ∧ Hid (match g with | true => v + 1 = sumA xs (k + 1) | false => v = sumA xs (k + 1)) := by
  refine ⟨_, rfl, ?_⟩
  have e := sumA_step h k
  cases hg : divOdd (k : Int) xs
  · show v = _
    rw [e, hg, hv]; simp
  · show v + 1 = _
    rw [e, hg, hv]; simp
set_option maxRecDepth 100000 in
set_option maxHeartbeats 8000000 in
theorem walkG (A : Option Addr) (n c : Nat) (w : World) (h : Bytes w A n) (hn : n ≤ 4096) :
    Calls Try.prog 7 #[.slice A n c] w fun e w' => e = .returned (.bool true) ∧ Below w.heap.size w w' := by
  have By := Lib.hid h
  have HE := Lib.hid (Below.refl w.heap.size w)
  have hf : ¬ 4096 < (n : Int) := by omega
  have hf6 : Hid (∀ W, Calls Try.prog 28 #[.slice A n c] W fun e w' => e = .returned (.bool false) ∧ W = w') := fun W => by
    have h := f6big_any A n c W
    rwa [decide_eq_false hf] at h
  have q1 := Try.eqGuardType25
  have q2 := Try.stoodInHeld25
  have q3 := Try.eqGuardType60
  have q4 := Try.stoodInHeld60
  clear h hn hf
  go_enter Try.func7, Try.ntmps7
  go_wp2_with fail
  refine (hf6.out _).mono ?_
  rintro e w' ⟨rfl, rfl⟩
  clear hf6
  go_wp2_with fail
  refine (drawRulesFor_any A n c _ By.out).mono ?_
  rintro e w1 ⟨p1, r1, d1, rfl, hb⟩
  have HE := Lib.hid (ext_trans HE.out hb)
  have By := Lib.hid (By.out.next hb)
  obtain ⟨L, k1, HN1, HN2, hL, HOK, HUP⟩ := rules p1 r1 d1
  have F := Lib.hid (BoxV.new w1 #[.int .i64 p1, .int .i64 r1] 25)
  have hb := ext1 w1 (.cells #[.int .i64 p1, .int .i64 r1] 25)
  have HE := Lib.hid (ext_trans HE.out hb)
  have By := Lib.hid (By.out.next hb)
  clear hb
  go_wp2_with fail
  generalize w1.alloc (.cells #[.int .i64 p1, .int .i64 r1] 25) = W1 at *
  refine (HN1.out _).mono ?_
  rintro e w2 ⟨A1, c1, rfl, hw1, hb⟩
  have HE := Lib.hid (ext_trans HE.out hb)
  have By := Lib.hid (By.out.next hb)
  have F := Lib.hid (BoxV.next F.out hb)
  have DX := Lib.hid hw1.rd
  have f0 := F.out.at 0 _ rfl
  have f1 := F.out.at 1 _ rfl
  clear hb hw1
  go_wp2_with fail
  refine (HN2.out _).mono ?_
  rintro e w3 ⟨A2, c2, rfl, hw1, hb⟩
  have HE := Lib.hid (ext_trans HE.out hb)
  have By := Lib.hid (By.out.next hb)
  have F := Lib.hid (BoxV.next F.out hb)
  have DX := Lib.hid (rd_next DX.out hb)
  have DY := Lib.hid hw1.rd
  clear hb hw1 HN1 HN2 f0 f1
  go_wp2_with fail
  refine (drawDriftOf_any A n c _ By.out).mono ?_
  rintro e w4 ⟨l2, cc2, s2, p2, r2, y2, rfl, hb⟩
  have HE := Lib.hid (ext_trans HE.out hb)
  have By := Lib.hid (By.out.next hb)
  have F := Lib.hid (BoxV.next F.out hb)
  have DX := Lib.hid (rd_next DX.out hb)
  have DY := Lib.hid (rd_next DY.out hb)
  obtain ⟨a2, b2, k2, HD1, HD2⟩ := drifts l2 cc2 s2 p2 r2 y2
  have R := Lib.hid (BoxV.new w4 #[.int .i64 l2, .int .i64 cc2, .int .i64 s2] 60)
  have hb := ext1 w4 (.cells #[.int .i64 l2, .int .i64 cc2, .int .i64 s2] 60)
  have HE := Lib.hid (ext_trans HE.out hb)
  have By := Lib.hid (By.out.next hb)
  have F := Lib.hid (BoxV.next F.out hb)
  have DX := Lib.hid (rd_next DX.out hb)
  have DY := Lib.hid (rd_next DY.out hb)
  clear hb
  have G : Hid (BoxV (w4.heap.size + 1) [.int .i64 p2, .int .i64 r2] ((w4.alloc (.cells #[.int .i64 l2, .int .i64 cc2, .int .i64 s2] 60)).alloc (.cells #[.int .i64 p2, .int .i64 r2] 25))) := by
    have h := BoxV.new (w4.alloc (.cells #[.int .i64 l2, .int .i64 cc2, .int .i64 s2] 60)) #[.int .i64 p2, .int .i64 r2] 25
    rw [show (w4.alloc (.cells #[.int .i64 l2, .int .i64 cc2, .int .i64 s2] 60)).heap.size = w4.heap.size + 1 by simp] at h
    exact h
  have hb := ext1 (w4.alloc (.cells #[.int .i64 l2, .int .i64 cc2, .int .i64 s2] 60)) (.cells #[.int .i64 p2, .int .i64 r2] 25)
  have HE := Lib.hid (ext_trans HE.out hb)
  have By := Lib.hid (By.out.next hb)
  have F := Lib.hid (BoxV.next F.out hb)
  have DX := Lib.hid (rd_next DX.out hb)
  have DY := Lib.hid (rd_next DY.out hb)
  have R := Lib.hid (BoxV.next R.out hb)
  clear hb
  go_wp2_with fail
  generalize (w4.alloc (.cells #[.int .i64 l2, .int .i64 cc2, .int .i64 s2] 60)).alloc (.cells #[.int .i64 p2, .int .i64 r2] 25) = W4 at *
  refine (HD1.out _).mono ?_
  rintro e w5 ⟨rfl, hb⟩
  have HE := Lib.hid (ext_trans HE.out hb)
  have By := Lib.hid (By.out.next hb)
  have F := Lib.hid (BoxV.next F.out hb)
  have DX := Lib.hid (rd_next DX.out hb)
  have DY := Lib.hid (rd_next DY.out hb)
  have R := Lib.hid (BoxV.next R.out hb)
  have G := Lib.hid (BoxV.next G.out hb)
  have C1 := Lib.hid (BoxV.new w5 #[.int .i64 a2, .int .i64 b2] 25)
  have hb := ext1 w5 (.cells #[.int .i64 a2, .int .i64 b2] 25)
  have HE := Lib.hid (ext_trans HE.out hb)
  have By := Lib.hid (By.out.next hb)
  have F := Lib.hid (BoxV.next F.out hb)
  have DX := Lib.hid (rd_next DX.out hb)
  have DY := Lib.hid (rd_next DY.out hb)
  have R := Lib.hid (BoxV.next R.out hb)
  have G := Lib.hid (BoxV.next G.out hb)
  have g0 := R.out.at 0 _ rfl
  have g1 := R.out.at 1 _ rfl
  have g2 := R.out.at 2 _ rfl
  have f0 := G.out.at 0 _ rfl
  have f1 := G.out.at 1 _ rfl
  clear hb
  go_wp2_with fail
  generalize w5.alloc (.cells #[.int .i64 a2, .int .i64 b2] 25) = W5 at *
  refine (HD2.out _).mono ?_
  rintro e w6 ⟨rfl, hb⟩
  have HE := Lib.hid (ext_trans HE.out hb)
  have By := Lib.hid (By.out.next hb)
  have F := Lib.hid (BoxV.next F.out hb)
  have DX := Lib.hid (rd_next DX.out hb)
  have DY := Lib.hid (rd_next DY.out hb)
  have C1 := Lib.hid (BoxV.next C1.out hb)
  have C2 := Lib.hid (BoxV.new w6 #[.int .i64 a2, .int .i64 b2] 25)
  have hb := ext1 w6 (.cells #[.int .i64 a2, .int .i64 b2] 25)
  have HE := Lib.hid (ext_trans HE.out hb)
  have By := Lib.hid (By.out.next hb)
  have F := Lib.hid (BoxV.next F.out hb)
  have DX := Lib.hid (rd_next DX.out hb)
  have DY := Lib.hid (rd_next DY.out hb)
  have C1 := Lib.hid (BoxV.next C1.out hb)
  clear hb R G f0 f1 g0 g1 g2 HD1 HD2
  go_wp2_with fail
  generalize w6.alloc (.cells #[.int .i64 a2, .int .i64 b2] 25) = W6 at *
  refine (drawYearsToDrift_any A n c _ By.out).mono ?_
  rintro e w7 ⟨l3, cc3, s3, p3, r3, rfl, hb⟩
  have HE := Lib.hid (ext_trans HE.out hb)
  have By := Lib.hid (By.out.next hb)
  have F := Lib.hid (BoxV.next F.out hb)
  have DX := Lib.hid (rd_next DX.out hb)
  have DY := Lib.hid (rd_next DY.out hb)
  have C1 := Lib.hid (BoxV.next C1.out hb)
  have C2 := Lib.hid (BoxV.next C2.out hb)
  obtain ⟨a3, k3, HD1, HD2⟩ := years l3 cc3 s3 p3 r3
  have R := Lib.hid (BoxV.new w7 #[.int .i64 l3, .int .i64 cc3, .int .i64 s3] 60)
  have hb := ext1 w7 (.cells #[.int .i64 l3, .int .i64 cc3, .int .i64 s3] 60)
  have HE := Lib.hid (ext_trans HE.out hb)
  have By := Lib.hid (By.out.next hb)
  have F := Lib.hid (BoxV.next F.out hb)
  have DX := Lib.hid (rd_next DX.out hb)
  have DY := Lib.hid (rd_next DY.out hb)
  have C1 := Lib.hid (BoxV.next C1.out hb)
  have C2 := Lib.hid (BoxV.next C2.out hb)
  clear hb
  have G : Hid (BoxV (w7.heap.size + 1) [.int .i64 p3, .int .i64 r3] ((w7.alloc (.cells #[.int .i64 l3, .int .i64 cc3, .int .i64 s3] 60)).alloc (.cells #[.int .i64 p3, .int .i64 r3] 25))) := by
    have h := BoxV.new (w7.alloc (.cells #[.int .i64 l3, .int .i64 cc3, .int .i64 s3] 60)) #[.int .i64 p3, .int .i64 r3] 25
    rw [show (w7.alloc (.cells #[.int .i64 l3, .int .i64 cc3, .int .i64 s3] 60)).heap.size = w7.heap.size + 1 by simp] at h
    exact h
  have hb := ext1 (w7.alloc (.cells #[.int .i64 l3, .int .i64 cc3, .int .i64 s3] 60)) (.cells #[.int .i64 p3, .int .i64 r3] 25)
  have HE := Lib.hid (ext_trans HE.out hb)
  have By := Lib.hid (By.out.next hb)
  have F := Lib.hid (BoxV.next F.out hb)
  have DX := Lib.hid (rd_next DX.out hb)
  have DY := Lib.hid (rd_next DY.out hb)
  have C1 := Lib.hid (BoxV.next C1.out hb)
  have C2 := Lib.hid (BoxV.next C2.out hb)
  have R := Lib.hid (BoxV.next R.out hb)
  clear hb
  go_wp2_with fail
  generalize (w7.alloc (.cells #[.int .i64 l3, .int .i64 cc3, .int .i64 s3] 60)).alloc (.cells #[.int .i64 p3, .int .i64 r3] 25) = W7 at *
  refine (HD1.out _).mono ?_
  rintro e w8 ⟨rfl, hb⟩
  have HE := Lib.hid (ext_trans HE.out hb)
  have By := Lib.hid (By.out.next hb)
  have F := Lib.hid (BoxV.next F.out hb)
  have DX := Lib.hid (rd_next DX.out hb)
  have DY := Lib.hid (rd_next DY.out hb)
  have C1 := Lib.hid (BoxV.next C1.out hb)
  have C2 := Lib.hid (BoxV.next C2.out hb)
  have R := Lib.hid (BoxV.next R.out hb)
  have G := Lib.hid (BoxV.next G.out hb)
  have g0 := R.out.at 0 _ rfl
  have g1 := R.out.at 1 _ rfl
  have g2 := R.out.at 2 _ rfl
  have f0 := G.out.at 0 _ rfl
  have f1 := G.out.at 1 _ rfl
  clear hb
  go_wp2_with fail
  refine (HD2.out _).mono ?_
  rintro e w9 ⟨rfl, hb⟩
  have HE := Lib.hid (ext_trans HE.out hb)
  have By := Lib.hid (By.out.next hb)
  have F := Lib.hid (BoxV.next F.out hb)
  have DX := Lib.hid (rd_next DX.out hb)
  have DY := Lib.hid (rd_next DY.out hb)
  have C1 := Lib.hid (BoxV.next C1.out hb)
  have C2 := Lib.hid (BoxV.next C2.out hb)
  clear hb R G f0 f1 g0 g1 g2 HD1 HD2
  go_wp2_with fail
  refine (drawDivisorRule_any A n c _ By.out).mono ?_
  rintro e w10 ⟨A3, ys, c3, y4, rfl, hyl, hw1, hb⟩
  have HE := Lib.hid (ext_trans HE.out hb)
  have By := Lib.hid (By.out.next hb)
  have F := Lib.hid (BoxV.next F.out hb)
  have DX := Lib.hid (rd_next DX.out hb)
  have DY := Lib.hid (rd_next DY.out hb)
  have C1 := Lib.hid (BoxV.next C1.out hb)
  have C2 := Lib.hid (BoxV.next C2.out hb)
  have DZ := Lib.hid hw1
  clear hb hw1
  obtain ⟨b4, k4, HD1, HD2⟩ := divs ys y4 hyl
  go_wp2_with fail
  refine (HD1.out _ _ _ DZ.out).mono ?_
  rintro e w11 ⟨rfl, hb⟩
  have HE := Lib.hid (ext_trans HE.out hb)
  have By := Lib.hid (By.out.next hb)
  have F := Lib.hid (BoxV.next F.out hb)
  have DX := Lib.hid (rd_next DX.out hb)
  have DY := Lib.hid (rd_next DY.out hb)
  have C1 := Lib.hid (BoxV.next C1.out hb)
  have C2 := Lib.hid (BoxV.next C2.out hb)
  have DZ := Lib.hid (rd_next DZ.out hb)
  clear hb
  go_wp2_with fail
  refine (HD2.out _ _ _ DZ.out).mono ?_
  rintro e w12 ⟨rfl, hb⟩
  have HE := Lib.hid (ext_trans HE.out hb)
  have By := Lib.hid (By.out.next hb)
  have F := Lib.hid (BoxV.next F.out hb)
  have DX := Lib.hid (rd_next DX.out hb)
  have DY := Lib.hid (rd_next DY.out hb)
  have C1 := Lib.hid (BoxV.next C1.out hb)
  have C2 := Lib.hid (BoxV.next C2.out hb)
  clear hb DZ HD1 HD2 hyl
  go_wp2_with fail
  refine (drawDivisorShare_any A n c _ By.out).mono ?_
  rintro e w13 ⟨A4, xs, c4, rfl, hxl, hw1, hb⟩
  have HE := Lib.hid (ext_trans HE.out hb)
  have By := Lib.hid (By.out.next hb)
  have F := Lib.hid (BoxV.next F.out hb)
  have DX := Lib.hid (rd_next DX.out hb)
  have DY := Lib.hid (rd_next DY.out hb)
  have C1 := Lib.hid (BoxV.next C1.out hb)
  have C2 := Lib.hid (BoxV.next C2.out hb)
  have DZ := Lib.hid hw1
  clear hb hw1
  obtain ⟨a5, b5, k5, HD1, HD2, HSH⟩ := shares xs hxl
  go_wp2_with fail
  refine (HD1.out _ _ _ DZ.out).mono ?_
  rintro e w14 ⟨rfl, hb⟩
  have HE := Lib.hid (ext_trans HE.out hb)
  have By := Lib.hid (By.out.next hb)
  have F := Lib.hid (BoxV.next F.out hb)
  have DX := Lib.hid (rd_next DX.out hb)
  have DY := Lib.hid (rd_next DY.out hb)
  have C1 := Lib.hid (BoxV.next C1.out hb)
  have C2 := Lib.hid (BoxV.next C2.out hb)
  have DZ := Lib.hid (rd_next DZ.out hb)
  have R := Lib.hid (BoxV.new w14 #[.int .i64 a5, .int .i64 b5] 25)
  have hb := ext1 w14 (.cells #[.int .i64 a5, .int .i64 b5] 25)
  have HE := Lib.hid (ext_trans HE.out hb)
  have By := Lib.hid (By.out.next hb)
  have F := Lib.hid (BoxV.next F.out hb)
  have DX := Lib.hid (rd_next DX.out hb)
  have DY := Lib.hid (rd_next DY.out hb)
  have C1 := Lib.hid (BoxV.next C1.out hb)
  have C2 := Lib.hid (BoxV.next C2.out hb)
  have DZ := Lib.hid (rd_next DZ.out hb)
  clear hb By
  go_wp2_with fail
  generalize w14.alloc (.cells #[.int .i64 a5, .int .i64 b5] 25) = W14 at *
  refine (HD2.out _ _ _ DZ.out).mono ?_
  rintro e w15 ⟨rfl, hb⟩
  have HE := Lib.hid (ext_trans HE.out hb)
  have F := Lib.hid (BoxV.next F.out hb)
  have DX := Lib.hid (rd_next DX.out hb)
  have DY := Lib.hid (rd_next DY.out hb)
  have C1 := Lib.hid (BoxV.next C1.out hb)
  have C2 := Lib.hid (BoxV.next C2.out hb)
  have DZ := Lib.hid (rd_next DZ.out hb)
  have R := Lib.hid (BoxV.next R.out hb)
  have hb := ext1 w15 (.cells #[.int .i64 a5, .int .i64 b5] 25)
  have HE := Lib.hid (ext_trans HE.out hb)
  have F := Lib.hid (BoxV.next F.out hb)
  have DX := Lib.hid (rd_next DX.out hb)
  have DY := Lib.hid (rd_next DY.out hb)
  have C1 := Lib.hid (BoxV.next C1.out hb)
  have C2 := Lib.hid (BoxV.next C2.out hb)
  have DZ := Lib.hid (rd_next DZ.out hb)
  have R := Lib.hid (BoxV.next R.out hb)
  clear hb HD1 HD2
  have S := Lib.hid (BoxV.new w15 #[.int .i64 a5, .int .i64 b5] 25)
  go_upto_region 18 with fail
  generalize w15.alloc (.cells #[.int .i64 a5, .int .i64 b5] 25) = W15 at *
  have m0 := C1.out.at 0 _ rfl
  have m1 := C1.out.at 1 _ rfl
  have n0 := C2.out.at 0 _ rfl
  have n1 := C2.out.at 1 _ rfl
  have g0 := R.out.at 0 _ rfl
  have g1 := R.out.at 1 _ rfl
  have h0 := S.out.at 0 _ rfl
  have h1 := S.out.at 1 _ rfl
  go_wp2_with fail
  clear m0 m1 n0 n1 C1 C2 g0 g1 h0 h1 S
  go_loopw [33, 34] (fun a b wr => ∃ (k : Nat) (v : Int), k ≤ L.length ∧ b = .int .i64 k ∧ a = .int .i64 v ∧ Hid (∀ x, L[k]? = some x → ytC x.1 x.2 0 p1 r1 = 0 → v ≤ ytA x.1 x.2 0 p1 r1) ∧ Hid (Below W15.heap.size W15 wr)) (fun _ b _ => L.length - (intOf b).toNat)
  case atStart => exact ⟨0, 0, by omega, rfl, rfl, fun x _ _ => yt_nonneg _ _ _ _ _, Below.refl _ _⟩
  case round =>
    obtain ⟨k, v, hk, rfl, rfl, hv, hbe⟩ := hrel
    by_cases hlt : k < L.length
    · obtain ⟨b, off, rfl, HCX⟩ := rd_rule DX.out (by omega)
      obtain ⟨b', off', rfl, HCY⟩ := rd_rule DY.out (by omega)
      obtain ⟨xp, xq, hxk⟩ : ∃ xp xq, L[k]? = some (xp, xq) := ⟨L[k].1, L[k].2, List.getElem?_eq_getElem (by omega)⟩
      obtain ⟨HV, ya, yc, HY, o2, hyy, HNX⟩ := round_ok HOK.out HUP.out hxk hv.out
      obtain ⟨c0, c1, c2⟩ := HCX.out _ hbe.out _ _ _ hxk
      obtain ⟨e0, e1, e2⟩ := HCY.out _ hbe.out _ _ _ hxk
      have k0 : ∀ x os, (grow (redrawn wr x) os).cell? _ = _ := cell_regrown c0
      have k1 : ∀ x os, (grow (redrawn wr x) os).cell? _ = _ := cell_regrown c1
      have k2 : ∀ x os, (grow (redrawn wr x) os).cell? _ = _ := cell_regrown c2
      have l0 : ∀ x os, (grow (redrawn wr x) os).cell? _ = _ := cell_regrown e0
      have l1 : ∀ x os, (grow (redrawn wr x) os).cell? _ = _ := cell_regrown e1
      have l2 : ∀ x os, (grow (redrawn wr x) os).cell? _ = _ := cell_regrown e2
      have HXK := Lib.hid hxk
      clear c0 c1 c2 e0 e1 e2 hxk
      have i0 : (0 : Int) ≤ (k : Int) := by omega
      have i1 : (k : Int) < (L.length : Int) := by omega
      go_wp2_with fail
      refine wp_region_quiet_below (by kernel_rfl) (by kernel_rfl) ?_
      repeat (first | go_big_quiet_step ((with_reducible exact Calls.regrown_of (HV.out _))) | quiet_step ((with_reducible exact Calls.regrown_of (HV.out _))))
      refine wpQuiet_nil ?_
      intro _ hw'
      obtain ⟨⟨dq, oq⟩, hw''⟩ := hw'
      subst hw''
      obtain ⟨wp, hWp⟩ : ∃ Wq, Wq = grow (redrawn wr dq) oq := ⟨_, rfl⟩
      have hbp : Below wr.heap.size wr wp := by rw [hWp]; exact below_regrown _ _ _
      rw [← hWp]
      clear hWp
      obtain ⟨hcp, hfp⟩ := bcell hbp
      have hyp := hbp.size
      clear k0 k1 k2 l0 l1 l2
      have hbe := Lib.hid (ext_trans hbe.out hbp)
      clear hbp hcp hfp hyp
      obtain ⟨c0, c1, c2⟩ := HCX.out _ hbe.out _ _ _ HXK.out
      have F1 := F.out.next hbe.out
      have u0 := F1.at 0 _ rfl
      have u1 := F1.at 1 _ rfl
      have k0 : ∀ x os, (grow (redrawn wp x) os).cell? _ = _ := cell_regrown c0
      have k1 : ∀ x os, (grow (redrawn wp x) os).cell? _ = _ := cell_regrown c1
      have k2 : ∀ x os, (grow (redrawn wp x) os).cell? _ = _ := cell_regrown c2
      have l0 : ∀ x os, (grow (redrawn wp x) os).cell? _ = _ := cell_regrown u0
      have l1 : ∀ x os, (grow (redrawn wp x) os).cell? _ = _ := cell_regrown u1
      clear c0 c1 c2 u0 u1 F1
      go_wp2_with fail
      refine wp_region_quiet_below (by kernel_rfl) (by kernel_rfl) ?_
      repeat (first | go_big_quiet_step ((with_reducible exact Calls.regrown_of (HY.out _))) | quiet_step ((with_reducible exact Calls.regrown_of (HY.out _))))
      refine wpQuiet_nil ?_
      intro _ hw'
      obtain ⟨⟨dq, oq⟩, hw''⟩ := hw'
      subst hw''
      obtain ⟨wq, hWq⟩ : ∃ Wq, Wq = grow (redrawn wp dq) oq := ⟨_, rfl⟩
      have hbq : Below wp.heap.size wp wq := by rw [hWq]; exact below_regrown _ _ _
      rw [← hWq]
      clear hWq
      obtain ⟨hcq, hfq⟩ := bcell hbq
      have hyq := hbq.size
      clear k0 k1 k2 l0 l1
      have hbe := Lib.hid (ext_trans hbe.out hbq)
      clear hbq hcq hfq hyq
      rcases hyy with ⟨y1, y2⟩ | y1
      · go_wp2
        go_roundw
        case rel => exact ⟨k + 1, ya, by omega, by go_num, rfl, HNX, hbe⟩
        case measure => simp [intOf]; omega
      · go_wp2
        go_roundw
        case rel => exact ⟨k + 1, ya, by omega, by go_num, rfl, HNX, hbe⟩
        case measure => simp [intOf]; omega
    · obtain rfl : k = L.length := by omega
      clear hv HOK HUP DX DY F
      by_cases e5 : k5 = 0
      · obtain ⟨l, hl, x1, l1, l2, hdc, hpo, hmk⟩ := share_good HSH.out e5
        have e5' : (k5 == 0) = true := by simpa using e5
        have DZ := Lib.hid (rd_next DZ.out hbe.out)
        obtain ⟨bz, oz, rfl, hbz, hcz⟩ := DZ.out (by omega)
        have cl := hcz _ _ hl
        have CL := Lib.hid cl
        have HBZ := Lib.hid hbz
        clear hcz hl e5 hbz
        have i0 : (0 : Int) ≤ (xs.length : Int) - 1 := by omega
        have i1 : (1 : Int) ≤ (xs.length : Int) := by omega
        by_cases hl2 : l ≤ 2000
        · go_wp2_with fail
          clear cl
          go_loopw [37, 38] (fun a b wq => ∃ (k : Nat) (v : Int), (k : Int) ≤ l ∧ b = .int .i64 k ∧ a = .int .i64 v ∧ 0 ≤ v ∧ v ≤ k ∧ Hid (v = sumA xs k) ∧ Hid (Below wr.heap.size wr wq)) (fun _ b _ => (l - intOf b).toNat)
          case atStart => exact ⟨0, 0, by omega, rfl, rfl, by omega, by omega, rfl, Below.refl _ _⟩
          case round =>
            obtain ⟨k, v, hk, rfl, rfl, v0, v1, hsm, hbq⟩ := hrel
            have cl := (hbq.out.cell (p := ⟨bz, oz + (xs.length - 1), none⟩) HBZ.out).trans CL.out
            by_cases hlt : (k : Int) < l
            · obtain ⟨g, hg, HST⟩ := div_step hpo.out k hsm.out
              go_wp2_with fail
              refine (div_is (hdc.out k (by omega) (by omega)) _ _ _ (rd_next DZ.out hbq.out) hg).mono ?_
              rintro e w16 ⟨rfl, hb⟩
              have hbq := Lib.hid (ext_trans hbq.out hb)
              clear hb hg cl
              cases g
              · go_wp2
                go_roundw
                case rel => exact ⟨k + 1, v, by omega, by go_num, rfl, by omega, by omega, HST.out, hbq⟩
                case measure => simp [intOf]; omega
              · go_wp2
                go_roundw
                case rel => exact ⟨k + 1, v + 1, by omega, by go_num, rfl, by omega, by omega, HST.out, hbq⟩
                case measure => simp [intOf]; omega
            · obtain rfl : l = (k : Int) := by omega
              have HM : Hid (∀ W, Calls Try.prog 45 #[.int .i64 v, .int .i64 k] W fun e w' => e = .returned (.tuple #[fracV a5 b5, .int .i64 0]) ∧ Below W.heap.size W w') := fun W => by
                have h := hmk.out W
                rw [Int.toNat_natCast, ← hsm.out] at h
                exact h
              go_wp2_with fail
              refine (HM.out _).mono ?_
              rintro e w17 ⟨rfl, hb⟩
              have hbe := Lib.hid (ext_trans (ext_trans hbe.out hbq.out) hb)
              have hb := ext1 w17 (.cells #[.int .i64 a5, .int .i64 b5] 25)
              have hbe := Lib.hid (ext_trans hbe.out hb)
              have R := R.out.next hbe.out
              have G := BoxV.new w17 #[.int .i64 a5, .int .i64 b5] 25
              have r0 := R.at 0 _ rfl
              have r1' := R.at 1 _ rfl
              have g0 := G.at 0 _ rfl
              have g1 := G.at 1 _ rfl
              clear R G hb cl
              go_wp2
              go_ret
              exact ⟨rfl, ext_trans HE.out hbe.out⟩
        · go_wp2
          go_ret
          exact ⟨rfl, ext_trans HE.out hbe.out⟩
      · have e5' : (k5 == 0) = false := by simpa using e5
        go_wp2
        go_ret
        exact ⟨rfl, ext_trans HE.out hbe.out⟩
set_option maxRecDepth 100000 in
theorem walk (A : Option Addr) (l c : Nat) (z : List Int) (w : World) (hx : IsRow .u8 w A l c z) :
    Calls Try.prog 7 #[.slice A l c] w fun e w' => e = .returned (.bool true) ∧ Below w.heap.size w w' := by
  by_cases h : l ≤ 4096
  · exact walkG A l c w (hx.bytes (by omega)) h
  · have hf : 4096 < (l : Int) := by omega
    have hf6 : Hid (∀ W, Calls Try.prog 28 #[.slice A l c] W fun e w' => e = .returned (.bool true) ∧ W = w') := fun W => by
      have h := f6big_any A l c W
      rwa [decide_eq_true hf] at h
    clear hx hf h
    go_enter Try.func7, Try.ntmps7
    go_wp2_with fail
    refine (hf6.out _).mono ?_
    rintro e w' ⟨rfl, rfl⟩
    go_wp2
    go_ret
    exact ⟨rfl, Below.refl _ _⟩

theorem own : ownKnob Try.prog.godebug = none := by kernel_rfl
theorem laidOut : laidOutB Try.prog = true := by kernel_rfl
set_option linter.unusedVariables false in
set_option maxRecDepth 100000 in
theorem lifted (os : Os) (started : os.Started) (H : Type) (enc : TypeId × Value → H) :
    ReturnsInHanded {} Try.checked os 7 .any (Rows.fnRulesSpec.pre6 enc Try.prog Try.f7 Rows.fnRulesRow.domain false) (Rows.fnRulesSpec.post enc Try.prog Try.f7 false true false false) := by
  refine returnsInHanded_of_change (C := Try.checked) own started (by kernel_rfl) Try.func7
    (ChangeSpec.witness6 (enc := enc) (C := Try.checked) false ⟨#[], #[.slice none 0 0], []⟩ 8 (by kernel_rfl) (by kernel_rfl) (by kernel_rfl) (by kernel_rfl)) ?_
  intro W base args ds gs before hval0 hW hcnd _
  have hval : ∀ (j : Nat) t v, Try.f7.params[j]? = some t → args[j]? = some v → Value.okWide Try.prog W .any base t v := hval0
  have hW' := hW
  obtain ⟨p, q, hA0, hV, rfl, hfz, hnd⟩ := hW
  have hA : DataW.TrodAll enc Try.prog W 0 (fun _ => true) true Try.f7.params.toList args.toList ds p := hA0
  rw [Try.params7] at hA hval
  obtain ⟨v0, vs0, d0, ds0, p0, q0, hargs, rfl, rfl, h0, r0⟩ := trodAll_cons hA
  obtain ⟨rfl, rfl, rfl⟩ := trodAll_nil r0
  obtain rfl : args = #[v0] := by cases args; simp_all
  obtain ⟨rfl, rfl⟩ := trodVars_none hV
  have k0 := h0
  have lt0 : ∀ x ∈ p0, x.block < W.heap.size := by obtain ⟨m, hm⟩ := k0; exact DataW.trod_lt m _ _ _ hm
  obtain ⟨A0, l0, c0, rfl⟩ := okWide_slice Try.underlying52 (hval 0 52 v0 rfl rfl)
  obtain ⟨z0, w0⟩ : ∃ zs, IsRow .u8 W A0 l0 c0 zs := isRow_arg Try.underlying52 Try.underlying5 (by kernel_rfl) h0
  clear hA0 hval0
  refine (walk A0 l0 c0 z0 W w0).mono fun e W' ⟨he, bel⟩ => ?_
  subst he
  exact ⟨_, rfl, _, _, _, [], _, [], hW', trodAll_mk1 (shut_bool Try.underlying4 _), (trodAll_cons_mk (Below.trod laidOut (by kernel_rfl) (of_decide_eq_true (by kernel_rfl)) k0 bel lt0) trodAll_mk0), rfl, bel.frame _, fun h => by cases h⟩

theorem jPlace : (Rows.fnRulesRow.inPlace == Try.prog.inPlace 7) = true := by kernel_rfl
theorem jFollow : (Rows.fnRulesRow.unfollowed == Try.prog.unfollowed 7) = true := by kernel_rfl
theorem jRecurse : (Rows.fnRulesRow.recurses == Try.prog.recurses 7) = true := by kernel_rfl
theorem jNamed : (Rows.fnRulesRow.named == Try.prog.varsNamed 7) = true := by kernel_rfl
theorem joined : joinedFacts Try.prog 7 Try.f7 Rows.fnRulesSpec Rows.fnRulesRow = true :=
  joined_of (by kernel_rfl) (by kernel_rfl) (by kernel_rfl) (by kernel_rfl) (by kernel_rfl) jPlace jFollow jRecurse jNamed (by kernel_rfl) (by kernel_rfl) (by kernel_rfl) (by kernel_rfl) (by kernel_rfl) (by kernel_rfl) (by kernel_rfl) (by kernel_rfl) (by kernel_rfl) rfl rfl rfl rfl rfl rfl (by kernel_rfl) (by kernel_rfl) (by kernel_rfl)
theorem over : Rows.fnRulesRow.holds Try.pinned (OpenSpec.ofChange Rows.fnRulesSpec) :=
  OpenClaim.holds_of_wide 7 Try.f7 rfl rfl rfl rfl rfl rfl rfl ⟨rfl, rfl, rfl, rfl, rfl⟩ rfl rfl rfl rfl rfl (by kernel_rfl) Try.func7 joined
    (of_decide_eq_true (by kernel_rfl)) (by unfold Func.isWrapper; first | (rw [if_pos (by decide +kernel)]; kernel_rfl) | (rw [if_neg (by decide +kernel)]; exact ⟨rfl, rfl⟩))
    (fun os started H enc _ => lifted os started H enc)

theorem proved : Rows.FnRulesSaid := over
#print axioms proved
end Go.Proofs.Ytdjnblkgeaphmaa.fnRules
