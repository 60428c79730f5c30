/- The numbers of a note, and a note's bytes. No condition but those that each theorem names. -/
import Derived.Test.YtkimmahmbacjpaaPackW
import Derived.Test.YtkimmahmbacjpaaNotes
import Derived.Test.YtkimmahmbacjpaaBoxW
import Derived.Test.YtkimmahmbacjpaaConcatW
import Derived.Test.YtkimmahmbacjpaaProvePW
namespace Go.Proofs.Ytkimmahmbacjpaa
open Go.RowKit Go.Sort Go.Maps Go.WideMaps

/-- The numbers of a note, by its kind. -/
def nuL (x : Nt) : List Int := if x.kind = 1 then [x.num, x.den] else if x.kind = 2 then (x.terms.length : Int) :: x.terms else [x.sp, x.sd, x.sq]
set_option maxRecDepth 100000 in
set_option maxHeartbeats 4000000 in
theorem numbersOf_any (x : Nt) (T : Option Addr) (c : Nat) (w : World) (hr : Rd (Value.int .i64) w w.heap.size T x.terms) (hl : x.terms.length ≤ 1000000) :
    Calls Try.prog 55 #[ntV x.name x.kind x.num x.den T x.terms.length c x.sp x.sd x.sq] w (RetList w (nuL x)) := by
  obtain ⟨nm, kd, num, den, ts, sp, sd, sq⟩ := x
  simp only at hr hl ⊢
  have hnu : nuL ⟨nm, kd, num, den, ts, sp, sd, sq⟩ = if kd = 1 then [num, den] else if kd = 2 then (ts.length : Int) :: ts else [sp, sd, sq] := rfl
  rw [hnu]
  clear hnu
  have B1 : BoxV w.heap.size [.string nm, .int .i64 kd, .int .i64 num, .int .i64 den, .slice T ts.length c, .int .i64 sp, .int .i64 sd, .int .i64 sq] (w.alloc (.cells #[.string nm, .int .i64 kd, .int .i64 num, .int .i64 den, .slice T ts.length c, .int .i64 sp, .int .i64 sd, .int .i64 sq] 36)) := BoxV.new w #[.string nm, .int .i64 kd, .int .i64 num, .int .i64 den, .slice T ts.length c, .int .i64 sp, .int .i64 sd, .int .i64 sq] 36
  have HB := Lib.hid (ext1 w (.cells #[.string nm, .int .i64 kd, .int .i64 num, .int .i64 den, .slice T ts.length c, .int .i64 sp, .int .i64 sd, .int .i64 sq] 36))
  unfold ntV
  by_cases h1 : kd = 1
  · rw [if_pos h1]
    subst h1
    go_enter Try.func55, Try.ntmps55
    go_wp2
    go_ret
    exact ⟨_, _, rfl, fun _ => ⟨w.heap.size + 1, 0, rfl, by omega, by simp, fun j y hy => by
      rw [Nat.zero_add, cell_two_snd]
      match j, hy with
      | 0, hy => simp at hy; subst hy; rfl
      | 1, hy => simp at hy; subst hy; rfl
      | j + 2, hy => simp at hy, fun j => World.frozen?_alloc_at _ _ _ _ (by simp)⟩, ext_alloc HB.out _⟩
  · rw [if_neg h1]
    have t1 : (kd == 1) = false := by simpa using h1
    by_cases h2 : kd = 2
    · rw [if_pos h2]
      subst h2
      clear h1 t1
      have hr1 := hr.below HB.out
      have hVs : w.heap.size < (w.alloc (.cells #[.string nm, .int .i64 2, .int .i64 num, .int .i64 den, .slice T ts.length c, .int .i64 sp, .int .i64 sd, .int .i64 sq] 36)).heap.size := B1.lt
      go_enter Try.func55, Try.ntmps55
      go_wp2_with fail
      generalize w.alloc (.cells #[.string nm, .int .i64 2, .int .i64 num, .int .i64 den, .slice T ts.length c, .int .i64 sp, .int .i64 sd, .int .i64 sq] 36) = V at *
      have x4 := B1.at 4 _ rfl
      have HCC : Hid (Calls Try.prog 92 #[.slice (some ⟨V.heap.size + 1, 0, none⟩) 2 2] ((V.drew.alloc (.cells #[.int .i64 (ts.length : Int)] 2)).alloc (.cells #[.slice (some ⟨V.heap.size, 0, none⟩) 1 1, .slice T ts.length c] 32)) (RetList ((V.drew.alloc (.cells #[.int .i64 (ts.length : Int)] 2)).alloc (.cells #[.slice (some ⟨V.heap.size, 0, none⟩) 1 1, .slice T ts.length c] 32)) ((ts.length : Int) :: ts))) := by
        have hPA : PartsAt ((V.drew.alloc (.cells #[.int .i64 (ts.length : Int)] 2)).alloc (.cells #[.slice (some ⟨V.heap.size, 0, none⟩) 1 1, .slice T ts.length c] 32)) (V.heap.size + 1) [(some ⟨V.heap.size, 0, none⟩, 1, [(ts.length : Int)]), (T, c, ts)] := by
          refine ⟨by simp, fun j t ht => ?_, fun t ht => ?_⟩
          · have hcell : ∀ j, ((V.drew.alloc (.cells #[.int .i64 (ts.length : Int)] 2)).alloc (.cells #[.slice (some ⟨V.heap.size, 0, none⟩) 1 1, .slice T ts.length c] 32)).cell? ⟨V.heap.size + 1, j, none⟩ = (#[.slice (some ⟨V.heap.size, 0, none⟩) 1 1, .slice T ts.length c] : Array Value)[j]? := fun j => cell_two_snd V.drew _ _ _ _ j
            rw [hcell]
            match j, ht with
            | 0, ht => simp at ht; subst ht; rfl
            | 1, ht => simp at ht; subst ht; rfl
            | j + 2, ht => simp at ht
          · have hbb : Below V.heap.size V ((V.drew.alloc (.cells #[.int .i64 (ts.length : Int)] 2)).alloc (.cells #[.slice (some ⟨V.heap.size, 0, none⟩) 1 1, .slice T ts.length c] 32)) := ext_alloc (ext_alloc (ext_drew (Below.refl _ _)) _) _
            simp only [List.mem_cons, List.not_mem_nil, or_false] at ht
            rcases ht with rfl | rfl
            · intro _
              refine ⟨V.heap.size, 0, rfl, by simp; omega, fun j x hx => ?_⟩
              have hc : ((V.drew.alloc (.cells #[.int .i64 (ts.length : Int)] 2)).alloc (.cells #[.slice (some ⟨V.heap.size, 0, none⟩) 1 1, .slice T ts.length c] 32)).cell? ⟨V.heap.size, j, none⟩ = (#[.int .i64 (ts.length : Int)] : Array Value)[j]? := cell_two_fst V.drew _ _ _ _ j
              rw [Nat.zero_add, hc]
              match j, hx with
              | 0, hx => simp at hx; subst hx; rfl
              | j + 1, hx => simp at hx
            · exact ((hr1.more (Nat.le_of_lt hVs)).below hbb).more (by simp; omega)
        have h := concat_any (V.heap.size + 1) 2 _ _ hPA (by simp) (by simp [catL]; omega)
        have e : catL [((some ⟨V.heap.size, 0, none⟩ : Option Addr), 1, [(ts.length : Int)]), (T, c, ts)] = (ts.length : Int) :: ts := by simp [catL]
        rw [e] at h
        exact h
      have HH := Lib.hid (fun (W : World) (hb : BoxV w.heap.size [.string nm, .int .i64 2, .int .i64 num, .int .i64 den, .slice T ts.length c, .int .i64 sp, .int .i64 sd, .int .i64 sq] W) => hb.at 4 _ rfl)
      go_region_held3 (fun w' => w'.cell? ⟨w.heap.size, 4, none⟩ = some (.slice T ts.length c))
        (first | exact HH.out _ B1.drew | exact HH.out _ (B1.drew.alloc _) | exact HH.out _ ((B1.drew.alloc _).alloc _) | exact HH.out _ ((((B1.drew.alloc _).alloc _)).next hb4))
        (first | (go_at_call 72; (with_reducible refine (size_any _ _ _ _).mono ?_); rintro e w' ⟨rfl, rfl⟩) | (go_at_call 92; refine HCC.out.mono ?_; rintro e w4 ⟨A4, c4, rfl, hw4, hb4⟩))
      all_goals
        have HBB := Lib.hid (ext_trans (ext_alloc (ext_alloc (ext_drew HB.out) _) _) hb4)
        have HW4 := Lib.hid (hw4.more (show w.heap.size ≤ _ by simp; omega))
        go_wp2
        go_ret
        exact ⟨A4, c4, rfl, HW4.out, HBB.out⟩
    · rw [if_neg h2]
      have t2 : (kd == 2) = false := by simpa using h2
      clear h1 h2
      go_enter Try.func55, Try.ntmps55
      go_wp2
      go_ret
      exact ⟨_, _, rfl, fun _ => ⟨w.heap.size + 1, 0, rfl, by omega, by simp, fun j y hy => by
        rw [Nat.zero_add, cell_two_snd]
        match j, hy with
        | 0, hy => simp at hy; subst hy; rfl
        | 1, hy => simp at hy; subst hy; rfl
        | 2, hy => simp at hy; subst hy; rfl
        | j + 3, hy => simp at hy, fun j => World.frozen?_alloc_at _ _ _ _ (by simp)⟩, ext_alloc HB.out _⟩
end Go.Proofs.Ytkimmahmbacjpaa
