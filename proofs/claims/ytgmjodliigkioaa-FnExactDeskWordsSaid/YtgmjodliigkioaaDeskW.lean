/- The console's words: the walks. No condition. -/
import Derived.Test.YtgmjodliigkioaaStrS
namespace Go.Proofs.Ytgmjodliigkioaa
open Go.RowKit Go.Sort

/-- The commands: each word, and how many words the command has. -/
def forms : List (ByteArray × Int) := [(⟨#[97, 100, 100]⟩, 4), (⟨#[98, 101, 115, 116]⟩, 3), (⟨#[99, 108, 97, 115, 115, 101, 115]⟩, 2), (⟨#[99, 111, 110, 118]⟩, 2), (⟨#[100, 105, 118]⟩, 4), (⟨#[100, 114, 111, 112]⟩, 2), (⟨#[103, 99, 100]⟩, 3), (⟨#[108, 105, 115, 116]⟩, 1), (⟨#[109, 97, 114, 107, 111, 118]⟩, 2), (⟨#[109, 117, 108]⟩, 4), (⟨#[111, 114, 100, 101, 114]⟩, 3), (⟨#[112, 101, 108, 108]⟩, 2), (⟨#[114, 111, 111, 116]⟩, 2), (⟨#[115, 101, 116]⟩, 3), (⟨#[115, 117, 98]⟩, 4), (⟨#[115, 117, 114, 100]⟩, 4), (⟨#[118, 97, 108, 117, 101]⟩, 2)]
def dwords : List ByteArray := forms.map (·.1)

theorem Wr.lit {α : Type} {enc : α → Value} {xs : List α} {C : Array Value} {E : TypeId} (w : World) (h : C.toList = xs.map enc) : Wr enc (w.alloc (.cells C E)) w.heap.size (some ⟨w.heap.size, 0, none⟩) xs := fun _ =>
  ⟨w.heap.size, 0, rfl, Nat.le_refl _, by simp, fun j x hx => by
    rw [Nat.zero_add, cell_one, ← Array.getElem?_toList, h, List.getElem?_map, hx]; rfl, fun j => World.frozen?_alloc_at _ _ _ _ rfl⟩

theorem pair_at {α : Type} (g h : α → Value) (l : List α) (j : Nat) : (l.flatMap fun f => [g f, h f])[j * 2]? = (l[j]?).map g ∧ (l.flatMap fun f => [g f, h f])[j * 2 + 1]? = (l[j]?).map h := by
  induction l generalizing j with
  | nil => simp
  | cons a l ih =>
    cases j with
    | zero => simp
    | succ j =>
      have e : (j + 1) * 2 = j * 2 + 1 + 1 := by omega
      rw [e]
      simp only [List.flatMap_cons, List.cons_append, List.nil_append, List.getElem?_cons_succ]
      exact ih j
theorem one_at {W : World} {g : Nat} (hg : g = W.heap.size) (u : Value) (E : TypeId) : ∀ j v, [u][j]? = some v → (W.alloc (.cells #[u] E)).cell? ((⟨g, 0, none⟩ : Addr).add j) = some v := by
  subst hg
  exact cell_one_new _ _ _

/-- What a call returns that makes a slice of strings. -/
def RetStrs (w : World) (xs : List ByteArray) (e : Ending) (w' : World) : Prop :=
  ∃ A c, e = .returned (.slice A xs.length c) ∧ Wr Value.string w' w.heap.size A xs ∧ Below w.heap.size w w'

theorem l28Words_any (w : World) : Calls Try.prog 60 #[] w (RetStrs w dwords) := by
  go_enter Try.func60, Try.ntmps60
  go_wp2
  go_ret
  exact ⟨_, _, rfl, Wr.lit w rfl, ext_alloc (Below.refl _ _) _⟩
theorem sDeskWords_any (w : World) : Calls Try.prog 22 #[] w (RetStrs w dwords) := by
  go_enter Try.func22, Try.ntmps22
  go_wp2_with fail
  refine (l28Words_any _).mono ?_
  rintro e w1 ⟨A, c, rfl, hw, hb⟩
  go_wp2
  go_ret
  exact ⟨_, _, rfl, hw, hb⟩

def formCells : List Value := forms.flatMap fun f => [.string f.1, .int .i64 f.2]
theorem deskForms_any (w : World) : Calls Try.prog 61 #[] w fun e w' => e = .returned (.slice (some ⟨w.heap.size, 0, none⟩) 17 17) ∧ w' = w.alloc (.cells formCells.toArray 75) := by
  go_enter Try.func61, Try.ntmps61
  go_wp2
  go_ret
  exact ⟨rfl, rfl⟩

theorem infoS : (Try.prog.info? 9).map (fun i => (i.zero, i.size, i.bytes)) = some (some (.string ByteArray.empty), 1, 16) := by kernel_rfl

set_option maxHeartbeats 1000000 in
theorem iDeskWords_any (w : World) : Calls Try.prog 23 #[] w (RetStrs w dwords) := by
  obtain ⟨i0, hi, hz0, hz1, hz2⟩ := info_parts infoS
  have HI := Lib.hid hi
  clear hi
  go_enter Try.func23, Try.ntmps23
  go_wp2_with fail
  refine (deskForms_any _).mono ?_
  rintro e w1 ⟨rfl, hw1⟩
  have hb1 : Below w.heap.size w w1 := by rw [hw1]; exact ext_alloc (Below.refl _ _) _
  have hz : w.heap.size < w1.heap.size := by rw [hw1]; simp
  have hz' : w1.heap.size ≤ w.heap.size + 1 := by rw [hw1]; simp
  have hc : ∀ j f, forms[j]? = some f → w1.cell? ⟨w.heap.size, j * 2, none⟩ = some (.string f.1) ∧ w1.cell? ⟨w.heap.size, j * 2 + 1, none⟩ = some (.int .i64 f.2) := by
    intro j f hf
    rw [hw1, cell_one, cell_one]
    have h := pair_at (fun f : ByteArray × Int => Value.string f.1) (fun f => Value.int .i64 f.2) forms j
    rw [hf] at h
    simpa [formCells] using h
  have HC := Lib.hid hc
  clear hc hw1
  go_wp2_with fail
  go_loopw [1, 6] (fun v t wr => ∃ k : Nat, k ≤ 17 ∧ t = .int .i64 k ∧ Hid (wr.ownsRow (w.heap.size + 1) 9 1 v k ((dwords.take k).map Value.string) ∧ Below w1.heap.size w1 wr)) (fun _ t _ => 17 - (intOf t).toNat)
  case atStart => exact ⟨0, by omega, rfl, own_nil, Below.refl _ _⟩
  case round =>
    obtain ⟨k, hk, rfl, HR⟩ := hrel
    by_cases hlt : k < 17
    · obtain ⟨f, hf⟩ : ∃ f, forms[k]? = some f := ⟨_, List.getElem?_eq_getElem (by simp [forms]; omega)⟩
      obtain ⟨c1, c2⟩ := HC.out k f hf
      have d1 := (HR.out.2.cell (p := ⟨w.heap.size, k * 2, none⟩) hz).trans c1
      have d2 := (HR.out.2.cell (p := ⟨w.heap.size, k * 2 + 1, none⟩) hz).trans c2
      have HF := Lib.hid hf
      clear c1 c2 hf
      have ii0 : (0 : Int) ≤ (k : Int) := by omega
      have ii1 : (k : Int) < (17 : Int) := by omega
      go_wp2_with (at_builtin; refine wpList_append_own _ rfl _ _ 32 rfl (w.heap.size + 1) 9 i0 (.string ByteArray.empty) 1 16 Try.underlying32 HI.out hz0 hz1 hz2 rfl (by decide) _ _ _ rfl ((HR.out.1.alloc _).alloc _) ⟨wr.heap.size + 1, 0, none⟩ 1 1 [.string f.1] rfl rfl ?c1 ?c2 ?c3 ?c4 ?c5 ?_)
      case c1 => exact one_at (by simp) _ _
      case c2 => simp [Value.oneCell']
      case c3 => unfold maxLen; omega
      case c4 => omega
      case c5 => have := HR.out.2.size; simp; omega
      intro v' w3 hown3 hgrow _
      have hnew : Hid (w3.ownsRow (w.heap.size + 1) 9 1 v' (k + 1) ((dwords.take (k + 1)).map Value.string) ∧ Below w1.heap.size w1 w3) := by
        have e : dwords.take (k + 1) = dwords.take k ++ [f.1] := by
          rw [List.take_add_one]
          unfold dwords
          rw [List.getElem?_map, HF.out]
          rfl
        refine ⟨by rw [e, List.map_append]; simpa using hown3, ?_⟩
        exact below_grown (ext_alloc (ext_alloc HR.out.2 _) _) ((HR.out.1.alloc _).alloc _) hz' hgrow
      clear hown3 hgrow
      go_wp2
      go_roundw
      case rel => exact ⟨k + 1, by omega, by go_num, hnew⟩
      case measure => simp [intOf]; omega
    · obtain rfl : k = 17 := by omega
      go_wp2
      go_ret
      obtain ⟨hn, A, cc, rfl, hw⟩ := Wr.of_own HR.out.1
      exact ⟨A, cc, rfl, hw.more (by omega), ext_trans hb1 HR.out.2⟩
end Go.Proofs.Ytgmjodliigkioaa
