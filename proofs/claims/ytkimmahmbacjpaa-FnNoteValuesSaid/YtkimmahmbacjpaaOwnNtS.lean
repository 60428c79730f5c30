/- A note of one's own: the reference's walk. No condition but those that each theorem names. -/
import Derived.Test.YtkimmahmbacjpaaOwnNtW
namespace Go.Proofs.Ytkimmahmbacjpaa
open Go.RowKit Go.Sort

set_option maxRecDepth 100000 in
set_option maxHeartbeats 4000000 in
theorem l27Own_any (x : Nt) (b o : Nat) (T : Option Addr) (c : Nat) (w : World) (ha : NtAt w b o x T c) (hx : RdT w w.heap.size T c x.terms) (hl : x.terms.length ≤ 1048576) :
    Calls Try.prog 44 #[.pointer (some ⟨b, o, none⟩)] w (RetNt w x) := by
  unfold RetNt
  have hbl : b < w.heap.size := World.block_lt_of_cell? w _ ha.c0
  obtain ⟨c0, c1, c2, c3, c4, c5, c6, c7⟩ := ha
  generalize x.name = s at *
  generalize x.kind = k at *
  generalize x.num = n at *
  generalize x.den = m at *
  generalize x.sp = p at *
  generalize x.sd = f at *
  generalize x.sq = q at *
  generalize x.terms = xs at *
  have HC : Hid (∀ W : World, Below w.heap.size w W → Calls Try.prog 80 #[.slice T xs.length c] W (RetCap W xs)) := fun W hb => l00Own_any T c xs W (hx.next hb).1 hl
  unfold RetCap at HC
  clear hx
  go_enter Try.func44, Try.ntmps44
  go_wp2_with fail
  have E2 := ext_alloc (ext1 w (.cells #[.string ByteArray.empty, .int .i64 0, .int .i64 0, .int .i64 0, .slice none 0 0, .int .i64 0, .int .i64 0, .int .i64 0] 36)) (.cells #[.string s, .int .i64 k, .int .i64 n, .int .i64 m, .slice T xs.length c, .int .i64 p, .int .i64 f, .int .i64 q] 36)
  refine (HC.out _ E2).mono ?_
  rintro e w1 ⟨A, d, rfl, hw1, hcap, hb1⟩
  have hy1 := hb1.size
  (try simp at hy1)
  have hz0 : w.heap.size < w1.heap.size := by omega
  have hz1 : w.heap.size + 1 < w1.heap.size := by omega
  have HE := Lib.hid (ext_trans E2 hb1)
  have hbz : w.heap.size ≤ ((w.alloc (.cells #[.string ByteArray.empty, .int .i64 0, .int .i64 0, .int .i64 0, .slice none 0 0, .int .i64 0, .int .i64 0, .int .i64 0] 36)).alloc (.cells #[.string s, .int .i64 k, .int .i64 n, .int .i64 m, .slice T xs.length c, .int .i64 p, .int .i64 f, .int .i64 q] 36)).heap.size := E2.size
  have HW := Lib.hid hw1
  have B1 := (BoxV.twoN w [.string ByteArray.empty, .int .i64 0, .int .i64 0, .int .i64 0, .slice none 0 0, .int .i64 0, .int .i64 0, .int .i64 0] [.string s, .int .i64 k, .int .i64 n, .int .i64 m, .slice T xs.length c, .int .i64 p, .int .i64 f, .int .i64 q] 36 36).1.next hb1
  have B0 := (BoxV.twoN w [.string ByteArray.empty, .int .i64 0, .int .i64 0, .int .i64 0, .slice none 0 0, .int .i64 0, .int .i64 0, .int .i64 0] [.string s, .int .i64 k, .int .i64 n, .int .i64 m, .slice T xs.length c, .int .i64 p, .int .i64 f, .int .i64 q] 36 36).2.next hb1
  have fz := B0.f 4
  have z4 := B0.at 4 _ rfl
  have B0 := B0.set 4 (.slice A xs.length d) (by simp)
  have B1 := B1.setFar (b := w.heap.size + 1) (j := 4) (.slice A xs.length d) (by omega)
  have x0 := B0.at 0 _ rfl
  have x1 := B0.at 1 _ rfl
  have x2 := B0.at 2 _ rfl
  have x3 := B0.at 3 _ rfl
  have x4 := B0.at 4 _ rfl
  have x5 := B0.at 5 _ rfl
  have x6 := B0.at 6 _ rfl
  have x7 := B0.at 7 _ rfl
  have r0 := B1.at 0 _ rfl
  have r1 := B1.at 1 _ rfl
  have r2 := B1.at 2 _ rfl
  have r3 := B1.at 3 _ rfl
  have r4 := B1.at 4 _ rfl
  have r5 := B1.at 5 _ rfl
  have r6 := B1.at 6 _ rfl
  have r7 := B1.at 7 _ rfl
  have f0 := B1.f 0
  have f1 := B1.f 1
  have f2 := B1.f 2
  have f3 := B1.f 3
  have f4 := B1.f 4
  have f5 := B1.f 5
  have f6 := B1.f 6
  have f7 := B1.f 7
  have HZ := Lib.hid hbz
  clear E2 hw1 hb1 B0 B1 hbz
  go_wp2
  refine bodyPost_ret (v := ntV s k n m A xs.length d p f q) (by simp [results, Try.results44, go_sem, r0, r1, r2, r3, r4, r5, r6, r7]) rfl ⟨A, d, rfl, ⟨?_, hcap⟩, ?_⟩
  · refine Wr.more (B := ((w.alloc (.cells #[.string ByteArray.empty, .int .i64 0, .int .i64 0, .int .i64 0, .slice none 0 0, .int .i64 0, .int .i64 0, .int .i64 0] 36)).alloc (.cells #[.string s, .int .i64 k, .int .i64 n, .int .i64 m, .slice T xs.length c, .int .i64 p, .int .i64 f, .int .i64 q] 36)).heap.size) ?_ HZ.out
    iterate 9 (refine Wr.setLow ?_ (by first | (simp; done) | (simp; omega)) _)
    exact HW.out
  · iterate 9 (refine ext_set ?_ (by first | (simp; done) | (simp; omega)) _)
    exact HE.out
end Go.Proofs.Ytkimmahmbacjpaa
