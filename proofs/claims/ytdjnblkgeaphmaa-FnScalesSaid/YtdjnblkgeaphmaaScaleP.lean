/- Notes of fifths by their heights: the plain law. No condition but those that each theorem names. -/
import Derived.Test.YtdjnblkgeaphmaaGear
namespace Go.Proofs.Ytdjnblkgeaphmaa
open Go.RowKit Go.Sort

/-- The notes 0 to 39 by ascending heights. -/
def gOrd : List Nat := [0, 12, 24, 36, 7, 19, 31, 2, 14, 26, 38, 9, 21, 33, 4, 16, 28, 11, 23, 35, 6, 18, 30, 1, 13, 25, 37, 8, 20, 32, 3, 15, 27, 39, 10, 22, 34, 5, 17, 29]
def rk (a : Nat) : Nat := gOrd.idxOf a
/-- The first n notes by ascending heights. -/
def srt (n : Nat) : List Nat := gOrd.filter (· < n)
/-- The place of note n among the first n + 1. -/
def plc (n : Nat) : Nat := (srt (n + 1)).idxOf n
def srtI (n : Nat) : List Int := (srt n).map Int.ofNat

theorem srt_step {n : Nat} (h : n ≤ 39) : (srt n).length = n ∧ plc n ≤ n ∧ srt (n + 1) = (srt n).take (plc n) ++ n :: (srt n).drop (plc n) := by
  have := all40_of (p := fun n => decide ((srt n).length = n ∧ plc n ≤ n ∧ srt (n + 1) = (srt n).take (plc n) ++ n :: (srt n).drop (plc n))) (by decide +kernel) h
  exact of_decide_eq_true this
theorem srt_len {n : Nat} (h : n ≤ 40) : (srt n).length = n := by
  rcases Nat.lt_or_ge n 40 with g | g
  · exact (srt_step (by omega)).1
  · obtain rfl : n = 40 := by omega
    decide +kernel
theorem srt_test {n j : Nat} (h : n ≤ 39) (hj : j < n) : (srt n).getD j 0 < n ∧ decide (rk n < rk ((srt n).getD j 0)) = decide (plc n ≤ j) := by
  have := all40_of (p := fun n => (List.range n).all fun j => decide ((srt n).getD j 0 < n ∧ decide (rk n < rk ((srt n).getD j 0)) = decide (plc n ≤ j))) (by decide +kernel) h
  exact of_decide_eq_true (List.all_eq_true.1 this j (List.mem_range.2 (by omega)))
theorem srtI_get {n j : Nat} (h : n ≤ 39) (hj : j < n) : (srtI n)[j]? = some ((((srt n).getD j 0 : Nat)) : Int) := by
  have hl := srt_len (n := n) (by omega)
  unfold srtI
  rw [List.getElem?_map, List.getElem?_eq_getElem (by omega), Option.map_some, List.getD_eq_getElem?_getD, List.getElem?_eq_getElem (by omega)]
  rfl
theorem srtI_len {n : Nat} (h : n ≤ 40) : (srtI n).length = n := by rw [srtI, List.length_map, srt_len h]
theorem srtI_step {n : Nat} (h : n ≤ 39) : srtI (n + 1) = (srtI n).take (plc n) ++ [(n : Int)] ++ (srtI n).drop (plc n) := by
  unfold srtI
  rw [(srt_step h).2.2]
  simp [List.map_take, List.map_drop]

/-- What the program's comparison says of two notes, the later one first. -/
def cmpA (a b : Nat) : Int := if pw 3 (a - b) < pw 2 (a + octv a - (b + octv b)) then -1 else if pw 2 (a + octv a - (b + octv b)) < pw 3 (a - b) then 1 else 0
def cmpN (a b : Nat) : Int := if b ≤ a then cmpA a b else -cmpA b a
theorem cmpN_rk {a b : Nat} (ha : a ≤ 39) (hb : b ≤ 39) : decide (cmpN a b < 0) = decide (rk a < rk b) := by
  have := all40_of (p := fun a => all40 fun b => decide (decide (cmpN a b < 0) = decide (rk a < rk b))) (by decide +kernel) ha
  exact of_decide_eq_true (all40_of this hb)
theorem rk_inj {a b : Nat} (ha : a ≤ 39) (hb : b ≤ 39) (h : rk a = rk b) : a = b := by
  have := all40_of (p := fun a => all40 fun b => decide (rk a = rk b → a = b)) (by decide +kernel) ha
  exact of_decide_eq_true (all40_of this hb) h

/-- The reference's comparison: the number with fewer twos is doubled. -/
def hUp (x y : Int) : Nat → Bool
  | 0 => decide (x < y)
  | m + 1 => if y / 2 < x then false else hUp (x * 2) y m
def hDn (x y : Int) : Nat → Bool
  | 0 => decide (x < y)
  | m + 1 => if x / 2 < y then true else hDn x (y * 2) m
def hB (a b : Nat) : Bool := if a + octv a < b + octv b then hUp (pw 3 a) (pw 3 b) (b + octv b - (a + octv a)) else hDn (pw 3 a) (pw 3 b) (a + octv a - (b + octv b))
theorem hB_rk {a b : Nat} (ha : a ≤ 39) (hb : b ≤ 39) : hB a b = decide (rk a < rk b) := by
  have := all40_of (p := fun a => all40 fun b => decide (hB a b = decide (rk a < rk b))) (by decide +kernel) ha
  exact of_decide_eq_true (all40_of this hb)

end Go.Proofs.Ytdjnblkgeaphmaa
