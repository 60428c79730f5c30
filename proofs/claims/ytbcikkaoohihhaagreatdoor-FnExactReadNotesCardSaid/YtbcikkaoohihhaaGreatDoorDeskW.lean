/- The console's words: the walks. No condition. -/
import Derived.Test.YtbcikkaoohihhaaGreatDoorStrS
namespace Go.Proofs.YtbcikkaoohihhaaGreatDoor
open Go.RowKit Go.Sort

/-- The commands: each word, and how many words the command has. -/
def forms : List (ByteArray × Int) := [(⟨#[97, 100, 100]⟩, 4), (⟨#[98, 101, 115, 116]⟩, 3), (⟨#[99, 108, 97, 115, 115, 101, 115]⟩, 2), (⟨#[99, 111, 110, 118]⟩, 2), (⟨#[100, 105, 118]⟩, 4), (⟨#[100, 114, 111, 112]⟩, 2), (⟨#[103, 99, 100]⟩, 3), (⟨#[108, 105, 115, 116]⟩, 1), (⟨#[109, 97, 114, 107, 111, 118]⟩, 2), (⟨#[109, 117, 108]⟩, 4), (⟨#[111, 114, 100, 101, 114]⟩, 3), (⟨#[112, 101, 108, 108]⟩, 2), (⟨#[114, 111, 111, 116]⟩, 2), (⟨#[115, 101, 116]⟩, 3), (⟨#[115, 117, 98]⟩, 4), (⟨#[115, 117, 114, 100]⟩, 4), (⟨#[118, 97, 108, 117, 101]⟩, 2)]
def dwords : List ByteArray := forms.map (·.1)

theorem Wr.lit {α : Type} {enc : α → Value} {xs : List α} {C : Array Value} {E : TypeId} (w : World) (h : C.toList = xs.map enc) : Wr enc (w.alloc (.cells C E)) w.heap.size (some ⟨w.heap.size, 0, none⟩) xs := fun _ =>
  ⟨w.heap.size, 0, rfl, Nat.le_refl _, by simp, fun j x hx => by
    rw [Nat.zero_add, cell_one, ← Array.getElem?_toList, h, List.getElem?_map, hx]; rfl, fun j => World.frozen?_alloc_at _ _ _ _ rfl⟩

theorem pair_at {α : Type} (g h : α → Value) (l : List α) (j : Nat) : (l.flatMap fun f => [g f, h f])[j * 2]? = (l[j]?).map g ∧ (l.flatMap fun f => [g f, h f])[j * 2 + 1]? = (l[j]?).map h := by
  induction l generalizing j with
  | nil => simp
  | cons a l ih =>
    cases j with
    | zero => simp
    | succ j =>
      have e : (j + 1) * 2 = j * 2 + 1 + 1 := by omega
      rw [e]
      simp only [List.flatMap_cons, List.cons_append, List.nil_append, List.getElem?_cons_succ]
      exact ih j
theorem one_at {W : World} {g : Nat} (hg : g = W.heap.size) (u : Value) (E : TypeId) : ∀ j v, [u][j]? = some v → (W.alloc (.cells #[u] E)).cell? ((⟨g, 0, none⟩ : Addr).add j) = some v := by
  subst hg
  exact cell_one_new _ _ _

/-- What a call returns that makes a slice of strings. -/
def RetStrs (w : World) (xs : List ByteArray) (e : Ending) (w' : World) : Prop :=
  ∃ A c, e = .returned (.slice A xs.length c) ∧ Wr Value.string w' w.heap.size A xs ∧ Below w.heap.size w w'

theorem infoS : (Tryz.prog.info? 9).map (fun i => (i.zero, i.size, i.bytes)) = some (some (.string ByteArray.empty), 1, 16) := by kernel_rfl

end Go.Proofs.YtbcikkaoohihhaaGreatDoor
