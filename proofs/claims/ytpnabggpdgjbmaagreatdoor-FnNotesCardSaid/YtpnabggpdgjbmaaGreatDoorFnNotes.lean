/- Law: what is added is found, removing it restores the notes, and notes are read back from texts and bytes. The listed variables lie in memory as the program's text lays them. -/
import Derived.Test.YtpnabggpdgjbmaaGreatDoorMgAC
import Derived.Test.YtpnabggpdgjbmaaGreatDoorMgBQ
namespace Go.Proofs.YtpnabggpdgjbmaaGreatDoor.fnNotes
open Go.ChangeShapes Go.WideShapes Go.ChangeAt Go.RowKit Go.Sort
open Go.ChangeMaps (open_string shut_string)
/-- A note in a box of the law's own. -/
structure Nb (b : Nat) (x : Nt) (A : Option Addr) (c : Nat) (W : World) : Prop where
  s : BoxV b (ntLv x (.slice A x.terms.length c)) W
  r : RdT W W.heap.size A c x.terms
theorem Nb.next {b : Nat} {x : Nt} {A : Option Addr} {c : Nat} {W W' : World} (h : Nb b x A c W) (hb : Below W.heap.size W W') : Nb b x A c W' := ⟨h.s.next hb, h.r.next hb⟩
theorem rdNt_one {W : World} {z : Nt} {T : Option Addr} {d : Nat} (h : RdT W W.heap.size T d z.terms) : RdNt (W.alloc (.cells #[.string z.name, .int .i64 z.kind, .int .i64 z.num, .int .i64 z.den, .slice T z.terms.length d, .int .i64 z.sp, .int .i64 z.sd, .int .i64 z.sq] 31)) (W.alloc (.cells #[.string z.name, .int .i64 z.kind, .int .i64 z.num, .int .i64 z.den, .slice T z.terms.length d, .int .i64 z.sp, .int .i64 z.sd, .int .i64 z.sq] 31)).heap.size (some ⟨W.heap.size, 0, none⟩) [z] := fun _ =>
  ⟨W.heap.size, 0, rfl, by simp, fun j x hx => by
    cases j with
    | zero =>
      simp at hx
      subst hx
      refine ⟨T, d, fun i v hv => ?_, h.next (ext1 _ _)⟩
      rw [Nat.zero_mul, Nat.zero_add, cell_one]
      rw [← hv, ← Array.getElem?_toList]
      rfl
    | succ j => simp at hx⟩
theorem one_one (W : World) (z : Nt) (T7 T8 : Option Addr) (d7 d8 : Nat) {b7 b8 : Nat} (hz : z.fits) (h7 : Nb b7 z T7 d7 W) (h8 : Nb b8 z T8 d8 W) :
    NkS (some ⟨W.heap.size, 0, none⟩) [z] ((W.alloc (.cells #[.string z.name, .int .i64 z.kind, .int .i64 z.num, .int .i64 z.den, .slice T7 z.terms.length d7, .int .i64 z.sp, .int .i64 z.sd, .int .i64 z.sq] 31)).alloc (.cells #[.string z.name, .int .i64 z.kind, .int .i64 z.num, .int .i64 z.den, .slice T8 z.terms.length d8, .int .i64 z.sp, .int .i64 z.sd, .int .i64 z.sq] 31)) ∧ NkS (some ⟨W.heap.size + 1, 0, none⟩) [z] ((W.alloc (.cells #[.string z.name, .int .i64 z.kind, .int .i64 z.num, .int .i64 z.den, .slice T7 z.terms.length d7, .int .i64 z.sp, .int .i64 z.sd, .int .i64 z.sq] 31)).alloc (.cells #[.string z.name, .int .i64 z.kind, .int .i64 z.num, .int .i64 z.den, .slice T8 z.terms.length d8, .int .i64 z.sp, .int .i64 z.sd, .int .i64 z.sq] 31)) := by
  have hok : ∀ x ∈ [z], x.fits := fun x hx => by
    simp only [List.mem_cons, List.not_mem_nil, or_false] at hx
    subst hx
    exact hz
  refine ⟨⟨(rdNt_one h7.r).next (ext1 _ _), by simp, hok⟩, ⟨?_, by simp, hok⟩⟩
  have h := rdNt_one (z := z) (h8.r.next (ext1 W (.cells #[.string z.name, .int .i64 z.kind, .int .i64 z.num, .int .i64 z.den, .slice T7 z.terms.length d7, .int .i64 z.sp, .int .i64 z.sd, .int .i64 z.sq] 31)))
  simp only [World.size_alloc] at h ⊢
  exact h
theorem toList_ne {E : ByteArray} (h : ¬ E = ⟨#[]⟩) : (E.toList == ([] : List UInt8)) = false := by
  rw [beq_eq_false_iff_ne]
  intro h2
  exact h (toList_injU (by rw [h2, ByteArray.toList_eq]))
set_option maxRecDepth 100000 in
set_option maxHeartbeats 16000000 in
theorem walkG (A : Option Addr) (n c : Nat) (w : World) (hV : Vars w) (h : Bytes w A n) (hn : n ≤ 4096) :
    Calls Tryz.prog 3 #[.slice A n c] w fun e w' => e = .returned (.bool true) ∧ Below w.heap.size w w' := by
  have By := Lib.hid h
  have HE := Lib.hid (Below.refl w.heap.size w)
  have HV := Lib.hid hV
  have hf : ¬ 4096 < (n : Int) := by omega
  have hf6 : Hid (∀ W, Calls Tryz.prog 4 #[.slice A n c] W fun e w' => e = .returned (.bool false) ∧ W = w') := fun W => by
    have h := f6big_any A n c W
    rwa [decide_eq_false hf] at h
  clear h hn hf hV
  go_enter Tryz.func3, Tryz.ntmps3
  simp only [List.append]
  go_wp2_with fail
  refine (hf6.out _).mono ?_
  rintro e w' ⟨rfl, rfl⟩
  go_wp2_with fail
  refine (drawAddNote_any A n c _ By.out).mono ?_
  rintro e w1 ⟨A1, c1, xs, x, T, ct, rfl, hN1, hsx, hT, hb⟩
  obtain ⟨L1, k1, HI1, HS1, HD1⟩ := adds xs x hsx
  have hxf := sm_fits hsx
  have HXF := Lib.hid hxf
  replace HE := Lib.hid (ext_trans HE.out hb)
  replace By := Lib.hid (By.out.next hb)
  replace HV := Lib.hid (HV.out.next hb)
  clear hb
  have N1 := Lib.hid hN1
  have X : Hid (Nb w1.heap.size x T ct (w1.alloc (.cells #[.string x.name, .int .i64 x.kind, .int .i64 x.num, .int .i64 x.den, .slice T x.terms.length ct, .int .i64 x.sp, .int .i64 x.sd, .int .i64 x.sq] 31))) := ⟨BoxV.new _ _ _, (hT.below (ext1 _ _)).more (ext1 _ _).size⟩
  have hb := ext1 w1 (.cells #[.string x.name, .int .i64 x.kind, .int .i64 x.num, .int .i64 x.den, .slice T x.terms.length ct, .int .i64 x.sp, .int .i64 x.sd, .int .i64 x.sq] 31)
  replace HE := Lib.hid (ext_trans HE.out hb)
  replace By := Lib.hid (By.out.next hb)
  replace HV := Lib.hid (HV.out.next hb)
  replace N1 := Lib.hid (N1.out.next hb)
  clear hb hT hsx hN1 hxf
  have p0 := X.out.s.at 0 _ rfl
  have p1 := X.out.s.at 1 _ rfl
  have p2 := X.out.s.at 2 _ rfl
  have p3 := X.out.s.at 3 _ rfl
  have p4 := X.out.s.at 4 _ rfl
  have p5 := X.out.s.at 5 _ rfl
  have p6 := X.out.s.at 6 _ rfl
  have p7 := X.out.s.at 7 _ rfl
  go_wp2_with fail
  generalize w1.alloc (.cells #[.string x.name, .int .i64 x.kind, .int .i64 x.num, .int .i64 x.den, .slice T x.terms.length ct, .int .i64 x.sp, .int .i64 x.sd, .int .i64 x.sq] 31) = W1 at *
  generalize w1.heap.size = bx at *
  refine (HI1.out _ _ _ _ _ N1.out X.out.r).mono ?_
  rintro e w2 ⟨A2, c2, rfl, hK2, hb⟩
  replace HE := Lib.hid (ext_trans HE.out hb)
  replace By := Lib.hid (By.out.next hb)
  replace HV := Lib.hid (HV.out.next hb)
  replace N1 := Lib.hid (N1.out.next hb)
  replace X := Lib.hid (X.out.next hb)
  clear hb
  have K2 := Lib.hid hK2
  clear hK2 p0 p1 p2 p3 p4 p5 p6 p7
  have p0 := X.out.s.at 0 _ rfl
  have p1 := X.out.s.at 1 _ rfl
  have p2 := X.out.s.at 2 _ rfl
  have p3 := X.out.s.at 3 _ rfl
  have p4 := X.out.s.at 4 _ rfl
  have p5 := X.out.s.at 5 _ rfl
  have p6 := X.out.s.at 6 _ rfl
  have p7 := X.out.s.at 7 _ rfl
  go_wp2_with fail
  refine (HS1.out _ _ _ _ _ N1.out X.out.r).mono ?_
  rintro e w3 ⟨A3, c3, rfl, hK3, hb⟩
  replace HE := Lib.hid (ext_trans HE.out hb)
  replace By := Lib.hid (By.out.next hb)
  replace HV := Lib.hid (HV.out.next hb)
  replace N1 := Lib.hid (N1.out.next hb)
  replace X := Lib.hid (X.out.next hb)
  replace K2 := Lib.hid (K2.out.next hb)
  clear hb
  have K3 := Lib.hid hK3
  clear hK3 HI1 HS1 p0 p1 p2 p3 p4 p5 p6 p7
  go_wp2_with fail
  refine (drawDropNote_any A n c _ By.out).mono ?_
  rintro e w4 ⟨A4, c4, ys, s, rfl, hN4, hs4, hb⟩
  obtain ⟨L2, k2, z, HI2, HS2, HI3, HS3, hzf⟩ := drops ys s (fun y hy => hN4.sm y hy)
  have HZF := Lib.hid hzf
  replace HE := Lib.hid (ext_trans HE.out hb)
  replace By := Lib.hid (By.out.next hb)
  replace HV := Lib.hid (HV.out.next hb)
  replace N1 := Lib.hid (N1.out.next hb)
  replace X := Lib.hid (X.out.next hb)
  replace K2 := Lib.hid (K2.out.next hb)
  replace K3 := Lib.hid (K3.out.next hb)
  clear hb
  have N4 := Lib.hid hN4
  clear hN4 hs4 hzf
  go_wp2_with fail
  refine (HI2.out _ _ _ N4.out).mono ?_
  rintro e w5 ⟨A5, c5, rfl, hK5, hb⟩
  replace HE := Lib.hid (ext_trans HE.out hb)
  replace By := Lib.hid (By.out.next hb)
  replace HV := Lib.hid (HV.out.next hb)
  replace N1 := Lib.hid (N1.out.next hb)
  replace X := Lib.hid (X.out.next hb)
  replace K2 := Lib.hid (K2.out.next hb)
  replace K3 := Lib.hid (K3.out.next hb)
  replace N4 := Lib.hid (N4.out.next hb)
  clear hb
  have K5 := Lib.hid hK5
  clear hK5
  go_wp2_with fail
  refine (HS2.out _ _ _ N4.out).mono ?_
  rintro e w6 ⟨A6, c6, rfl, hK6, hb⟩
  replace HE := Lib.hid (ext_trans HE.out hb)
  replace By := Lib.hid (By.out.next hb)
  replace HV := Lib.hid (HV.out.next hb)
  replace N1 := Lib.hid (N1.out.next hb)
  replace X := Lib.hid (X.out.next hb)
  replace K2 := Lib.hid (K2.out.next hb)
  replace K3 := Lib.hid (K3.out.next hb)
  replace N4 := Lib.hid (N4.out.next hb)
  replace K5 := Lib.hid (K5.out.next hb)
  clear hb
  have K6 := Lib.hid hK6
  clear hK6 HI2 HS2
  go_wp2_with fail
  refine (HI3.out _ _ _ N4.out).mono ?_
  rintro e w7 ⟨T7, d7, rfl, hT, hb⟩
  replace HE := Lib.hid (ext_trans HE.out hb)
  replace By := Lib.hid (By.out.next hb)
  replace HV := Lib.hid (HV.out.next hb)
  replace N1 := Lib.hid (N1.out.next hb)
  replace X := Lib.hid (X.out.next hb)
  replace K2 := Lib.hid (K2.out.next hb)
  replace K3 := Lib.hid (K3.out.next hb)
  replace N4 := Lib.hid (N4.out.next hb)
  replace K5 := Lib.hid (K5.out.next hb)
  replace K6 := Lib.hid (K6.out.next hb)
  clear hb
  have Z7 : Hid (Nb w7.heap.size z T7 d7 (w7.alloc (.cells #[.string z.name, .int .i64 z.kind, .int .i64 z.num, .int .i64 z.den, .slice T7 z.terms.length d7, .int .i64 z.sp, .int .i64 z.sd, .int .i64 z.sq] 31))) := ⟨BoxV.new _ _ _, (hT.below (ext1 _ _)).more (ext1 _ _).size⟩
  have hb0 := ext1 w7 (.cells #[.string z.name, .int .i64 z.kind, .int .i64 z.num, .int .i64 z.den, .slice T7 z.terms.length d7, .int .i64 z.sp, .int .i64 z.sd, .int .i64 z.sq] 31)
  replace HE := Lib.hid (ext_trans HE.out hb0)
  replace By := Lib.hid (By.out.next hb0)
  replace HV := Lib.hid (HV.out.next hb0)
  replace N1 := Lib.hid (N1.out.next hb0)
  replace X := Lib.hid (X.out.next hb0)
  replace K2 := Lib.hid (K2.out.next hb0)
  replace K3 := Lib.hid (K3.out.next hb0)
  replace N4 := Lib.hid (N4.out.next hb0)
  replace K5 := Lib.hid (K5.out.next hb0)
  replace K6 := Lib.hid (K6.out.next hb0)
  clear hb0 hT
  go_wp2_with fail
  generalize w7.alloc (.cells #[.string z.name, .int .i64 z.kind, .int .i64 z.num, .int .i64 z.den, .slice T7 z.terms.length d7, .int .i64 z.sp, .int .i64 z.sd, .int .i64 z.sq] 31) = W7 at *
  generalize w7.heap.size = b7 at *
  refine (HS3.out _ _ _ N4.out).mono ?_
  rintro e w8 ⟨T8, d8, rfl, hT, hb⟩
  replace HE := Lib.hid (ext_trans HE.out hb)
  replace By := Lib.hid (By.out.next hb)
  replace HV := Lib.hid (HV.out.next hb)
  replace N1 := Lib.hid (N1.out.next hb)
  replace X := Lib.hid (X.out.next hb)
  replace K2 := Lib.hid (K2.out.next hb)
  replace K3 := Lib.hid (K3.out.next hb)
  replace N4 := Lib.hid (N4.out.next hb)
  replace K5 := Lib.hid (K5.out.next hb)
  replace K6 := Lib.hid (K6.out.next hb)
  replace Z7 := Lib.hid (Z7.out.next hb)
  clear hb
  have Z8 : Hid (Nb w8.heap.size z T8 d8 (w8.alloc (.cells #[.string z.name, .int .i64 z.kind, .int .i64 z.num, .int .i64 z.den, .slice T8 z.terms.length d8, .int .i64 z.sp, .int .i64 z.sd, .int .i64 z.sq] 31))) := ⟨BoxV.new _ _ _, (hT.below (ext1 _ _)).more (ext1 _ _).size⟩
  have hb0 := ext1 w8 (.cells #[.string z.name, .int .i64 z.kind, .int .i64 z.num, .int .i64 z.den, .slice T8 z.terms.length d8, .int .i64 z.sp, .int .i64 z.sd, .int .i64 z.sq] 31)
  replace HE := Lib.hid (ext_trans HE.out hb0)
  replace By := Lib.hid (By.out.next hb0)
  replace HV := Lib.hid (HV.out.next hb0)
  replace N1 := Lib.hid (N1.out.next hb0)
  replace X := Lib.hid (X.out.next hb0)
  replace K2 := Lib.hid (K2.out.next hb0)
  replace K3 := Lib.hid (K3.out.next hb0)
  replace K5 := Lib.hid (K5.out.next hb0)
  replace K6 := Lib.hid (K6.out.next hb0)
  replace Z7 := Lib.hid (Z7.out.next hb0)
  clear hb0 hT N4 HI3 HS3
  go_wp2_with fail
  generalize w8.alloc (.cells #[.string z.name, .int .i64 z.kind, .int .i64 z.num, .int .i64 z.den, .slice T8 z.terms.length d8, .int .i64 z.sp, .int .i64 z.sd, .int .i64 z.sq] 31) = W8 at *
  generalize w8.heap.size = b8 at *
  refine (drawNotesText_any A n c _ By.out).mono ?_
  rintro e w9 ⟨A9, c9, t, rfl, hN9, hb⟩
  obtain ⟨E, R, ok, bv, HTI, HTS, HTR, HTE, HVI, HVS⟩ := texts t
  replace HE := Lib.hid (ext_trans HE.out hb)
  replace By := Lib.hid (By.out.next hb)
  replace HV := Lib.hid (HV.out.next hb)
  replace N1 := Lib.hid (N1.out.next hb)
  replace X := Lib.hid (X.out.next hb)
  replace K2 := Lib.hid (K2.out.next hb)
  replace K3 := Lib.hid (K3.out.next hb)
  replace K5 := Lib.hid (K5.out.next hb)
  replace K6 := Lib.hid (K6.out.next hb)
  replace Z7 := Lib.hid (Z7.out.next hb)
  replace Z8 := Lib.hid (Z8.out.next hb)
  clear hb
  have N9 := Lib.hid hN9
  clear hN9
  go_wp2_with fail
  refine (HTI.out _ _ _ N9.out HV.out).mono ?_
  rintro e w10 ⟨rfl, hb⟩
  replace HE := Lib.hid (ext_trans HE.out hb)
  replace By := Lib.hid (By.out.next hb)
  replace HV := Lib.hid (HV.out.next hb)
  replace N1 := Lib.hid (N1.out.next hb)
  replace X := Lib.hid (X.out.next hb)
  replace K2 := Lib.hid (K2.out.next hb)
  replace K3 := Lib.hid (K3.out.next hb)
  replace K5 := Lib.hid (K5.out.next hb)
  replace K6 := Lib.hid (K6.out.next hb)
  replace Z7 := Lib.hid (Z7.out.next hb)
  replace Z8 := Lib.hid (Z8.out.next hb)
  replace N9 := Lib.hid (N9.out.next hb)
  clear hb
  go_wp2_with fail
  refine (HTR.out _ HV.out).mono ?_
  rintro e w11 ⟨A10, c10, rfl, hK, hb⟩
  replace HE := Lib.hid (ext_trans HE.out hb)
  replace By := Lib.hid (By.out.next hb)
  replace HV := Lib.hid (HV.out.next hb)
  replace N1 := Lib.hid (N1.out.next hb)
  replace X := Lib.hid (X.out.next hb)
  replace K2 := Lib.hid (K2.out.next hb)
  replace K3 := Lib.hid (K3.out.next hb)
  replace K5 := Lib.hid (K5.out.next hb)
  replace K6 := Lib.hid (K6.out.next hb)
  replace Z7 := Lib.hid (Z7.out.next hb)
  replace Z8 := Lib.hid (Z8.out.next hb)
  replace N9 := Lib.hid (N9.out.next hb)
  clear hb
  have K10 := Lib.hid hK
  clear hK HTI HTR
  go_wp2_with fail
  refine (drawReadNotes_any A n c _ By.out).mono ?_
  rintro e w12 ⟨s2, rfl, hs2, hb⟩
  obtain ⟨R2, ok2, HRI, HRS⟩ := reads s2 hs2
  replace HE := Lib.hid (ext_trans HE.out hb)
  replace By := Lib.hid (By.out.next hb)
  replace HV := Lib.hid (HV.out.next hb)
  replace N1 := Lib.hid (N1.out.next hb)
  replace X := Lib.hid (X.out.next hb)
  replace K2 := Lib.hid (K2.out.next hb)
  replace K3 := Lib.hid (K3.out.next hb)
  replace K5 := Lib.hid (K5.out.next hb)
  replace K6 := Lib.hid (K6.out.next hb)
  replace Z7 := Lib.hid (Z7.out.next hb)
  replace Z8 := Lib.hid (Z8.out.next hb)
  replace N9 := Lib.hid (N9.out.next hb)
  replace K10 := Lib.hid (K10.out.next hb)
  clear hb
  clear hs2
  go_wp2_with fail
  refine (HRI.out _ HV.out).mono ?_
  rintro e w13 ⟨A11, c11, rfl, hK, hb⟩
  replace HE := Lib.hid (ext_trans HE.out hb)
  replace By := Lib.hid (By.out.next hb)
  replace HV := Lib.hid (HV.out.next hb)
  replace N1 := Lib.hid (N1.out.next hb)
  replace X := Lib.hid (X.out.next hb)
  replace K2 := Lib.hid (K2.out.next hb)
  replace K3 := Lib.hid (K3.out.next hb)
  replace K5 := Lib.hid (K5.out.next hb)
  replace K6 := Lib.hid (K6.out.next hb)
  replace Z7 := Lib.hid (Z7.out.next hb)
  replace Z8 := Lib.hid (Z8.out.next hb)
  replace N9 := Lib.hid (N9.out.next hb)
  replace K10 := Lib.hid (K10.out.next hb)
  clear hb
  have K11 := Lib.hid hK
  clear hK HRI
  go_wp2_with fail
  refine (HRS.out _).mono ?_
  rintro e w14 ⟨A12, c12, rfl, hK, hb⟩
  replace HE := Lib.hid (ext_trans HE.out hb)
  replace By := Lib.hid (By.out.next hb)
  replace HV := Lib.hid (HV.out.next hb)
  replace N1 := Lib.hid (N1.out.next hb)
  replace X := Lib.hid (X.out.next hb)
  replace K2 := Lib.hid (K2.out.next hb)
  replace K3 := Lib.hid (K3.out.next hb)
  replace K5 := Lib.hid (K5.out.next hb)
  replace K6 := Lib.hid (K6.out.next hb)
  replace Z7 := Lib.hid (Z7.out.next hb)
  replace Z8 := Lib.hid (Z8.out.next hb)
  replace N9 := Lib.hid (N9.out.next hb)
  replace K10 := Lib.hid (K10.out.next hb)
  replace K11 := Lib.hid (K11.out.next hb)
  clear hb
  have K12 := Lib.hid hK
  clear hK HRS
  go_wp2_with fail
  refine (drawPackNotes_any A n c _ By.out).mono ?_
  rintro e w15 ⟨A13, c13, p, rfl, hN, hb⟩
  obtain ⟨P, k5, HPI, HPS, HPU⟩ := packs p
  replace HE := Lib.hid (ext_trans HE.out hb)
  replace By := Lib.hid (By.out.next hb)
  replace HV := Lib.hid (HV.out.next hb)
  replace N1 := Lib.hid (N1.out.next hb)
  replace X := Lib.hid (X.out.next hb)
  replace K2 := Lib.hid (K2.out.next hb)
  replace K3 := Lib.hid (K3.out.next hb)
  replace K5 := Lib.hid (K5.out.next hb)
  replace K6 := Lib.hid (K6.out.next hb)
  replace Z7 := Lib.hid (Z7.out.next hb)
  replace Z8 := Lib.hid (Z8.out.next hb)
  replace N9 := Lib.hid (N9.out.next hb)
  replace K10 := Lib.hid (K10.out.next hb)
  replace K11 := Lib.hid (K11.out.next hb)
  replace K12 := Lib.hid (K12.out.next hb)
  clear hb
  have N13 := Lib.hid hN
  clear hN
  go_wp2_with fail
  refine (HPI.out _ _ _ N13.out).mono ?_
  rintro e w16 ⟨rfl, hb⟩
  replace HE := Lib.hid (ext_trans HE.out hb)
  replace By := Lib.hid (By.out.next hb)
  replace HV := Lib.hid (HV.out.next hb)
  replace N1 := Lib.hid (N1.out.next hb)
  replace X := Lib.hid (X.out.next hb)
  replace K2 := Lib.hid (K2.out.next hb)
  replace K3 := Lib.hid (K3.out.next hb)
  replace K5 := Lib.hid (K5.out.next hb)
  replace K6 := Lib.hid (K6.out.next hb)
  replace Z7 := Lib.hid (Z7.out.next hb)
  replace Z8 := Lib.hid (Z8.out.next hb)
  replace N9 := Lib.hid (N9.out.next hb)
  replace K10 := Lib.hid (K10.out.next hb)
  replace K11 := Lib.hid (K11.out.next hb)
  replace K12 := Lib.hid (K12.out.next hb)
  replace N13 := Lib.hid (N13.out.next hb)
  clear hb
  go_wp2_with fail
  refine (HPS.out _ _ _ N13.out).mono ?_
  rintro e w17 ⟨rfl, hb⟩
  replace HE := Lib.hid (ext_trans HE.out hb)
  replace By := Lib.hid (By.out.next hb)
  replace HV := Lib.hid (HV.out.next hb)
  replace N1 := Lib.hid (N1.out.next hb)
  replace X := Lib.hid (X.out.next hb)
  replace K2 := Lib.hid (K2.out.next hb)
  replace K3 := Lib.hid (K3.out.next hb)
  replace K5 := Lib.hid (K5.out.next hb)
  replace K6 := Lib.hid (K6.out.next hb)
  replace Z7 := Lib.hid (Z7.out.next hb)
  replace Z8 := Lib.hid (Z8.out.next hb)
  replace N9 := Lib.hid (N9.out.next hb)
  replace K10 := Lib.hid (K10.out.next hb)
  replace K11 := Lib.hid (K11.out.next hb)
  replace K12 := Lib.hid (K12.out.next hb)
  replace N13 := Lib.hid (N13.out.next hb)
  clear hb
  clear HPI HPS
  go_wp2_with fail
  refine (drawUnpackNotes_any A n c _ By.out).mono ?_
  rintro e w18 ⟨s3, rfl, hs3, hb⟩
  obtain ⟨U, k6, HUI, HUS⟩ := unpacks s3 hs3
  replace HE := Lib.hid (ext_trans HE.out hb)
  replace By := Lib.hid (By.out.next hb)
  replace HV := Lib.hid (HV.out.next hb)
  replace N1 := Lib.hid (N1.out.next hb)
  replace X := Lib.hid (X.out.next hb)
  replace K2 := Lib.hid (K2.out.next hb)
  replace K3 := Lib.hid (K3.out.next hb)
  replace K5 := Lib.hid (K5.out.next hb)
  replace K6 := Lib.hid (K6.out.next hb)
  replace Z7 := Lib.hid (Z7.out.next hb)
  replace Z8 := Lib.hid (Z8.out.next hb)
  replace N9 := Lib.hid (N9.out.next hb)
  replace K10 := Lib.hid (K10.out.next hb)
  replace K11 := Lib.hid (K11.out.next hb)
  replace K12 := Lib.hid (K12.out.next hb)
  replace N13 := Lib.hid (N13.out.next hb)
  clear hb
  clear hs3
  go_wp2_with fail
  refine (HUI.out _).mono ?_
  rintro e w19 ⟨A14, c14, rfl, hK, hb⟩
  replace HE := Lib.hid (ext_trans HE.out hb)
  replace By := Lib.hid (By.out.next hb)
  replace HV := Lib.hid (HV.out.next hb)
  replace N1 := Lib.hid (N1.out.next hb)
  replace X := Lib.hid (X.out.next hb)
  replace K2 := Lib.hid (K2.out.next hb)
  replace K3 := Lib.hid (K3.out.next hb)
  replace K5 := Lib.hid (K5.out.next hb)
  replace K6 := Lib.hid (K6.out.next hb)
  replace Z7 := Lib.hid (Z7.out.next hb)
  replace Z8 := Lib.hid (Z8.out.next hb)
  replace N9 := Lib.hid (N9.out.next hb)
  replace K10 := Lib.hid (K10.out.next hb)
  replace K11 := Lib.hid (K11.out.next hb)
  replace K12 := Lib.hid (K12.out.next hb)
  replace N13 := Lib.hid (N13.out.next hb)
  clear hb
  have K14 := Lib.hid hK
  clear hK HUI
  go_wp2_with fail
  refine (HUS.out _).mono ?_
  rintro e w20 ⟨A15, c15, rfl, hK, hb⟩
  replace HE := Lib.hid (ext_trans HE.out hb)
  replace By := Lib.hid (By.out.next hb)
  replace HV := Lib.hid (HV.out.next hb)
  replace N1 := Lib.hid (N1.out.next hb)
  replace X := Lib.hid (X.out.next hb)
  replace K2 := Lib.hid (K2.out.next hb)
  replace K3 := Lib.hid (K3.out.next hb)
  replace K5 := Lib.hid (K5.out.next hb)
  replace K6 := Lib.hid (K6.out.next hb)
  replace Z7 := Lib.hid (Z7.out.next hb)
  replace Z8 := Lib.hid (Z8.out.next hb)
  replace N9 := Lib.hid (N9.out.next hb)
  replace K10 := Lib.hid (K10.out.next hb)
  replace K11 := Lib.hid (K11.out.next hb)
  replace K12 := Lib.hid (K12.out.next hb)
  replace N13 := Lib.hid (N13.out.next hb)
  replace K14 := Lib.hid (K14.out.next hb)
  clear hb
  have K15 := Lib.hid hK
  clear hK HUS
  go_wp2_with fail
  refine (drawSameNotes_any A n c _ By.out).mono ?_
  rintro e w21 ⟨A16, c16, g, A17, c17, h, rfl, hK, hK', hb⟩
  obtain ⟨bs, HGI, HGS⟩ := sames g h
  replace HE := Lib.hid (ext_trans HE.out hb)
  replace By := Lib.hid (By.out.next hb)
  replace HV := Lib.hid (HV.out.next hb)
  replace N1 := Lib.hid (N1.out.next hb)
  replace X := Lib.hid (X.out.next hb)
  replace K2 := Lib.hid (K2.out.next hb)
  replace K3 := Lib.hid (K3.out.next hb)
  replace K5 := Lib.hid (K5.out.next hb)
  replace K6 := Lib.hid (K6.out.next hb)
  replace Z7 := Lib.hid (Z7.out.next hb)
  replace Z8 := Lib.hid (Z8.out.next hb)
  replace N9 := Lib.hid (N9.out.next hb)
  replace K10 := Lib.hid (K10.out.next hb)
  replace K11 := Lib.hid (K11.out.next hb)
  replace K12 := Lib.hid (K12.out.next hb)
  replace N13 := Lib.hid (N13.out.next hb)
  replace K14 := Lib.hid (K14.out.next hb)
  replace K15 := Lib.hid (K15.out.next hb)
  clear hb
  have K16 := Lib.hid hK
  have K17 := Lib.hid hK'
  clear hK hK'
  go_wp2_with fail
  refine (sameT A2 A3 c2 c3 L1 _ K2.out K3.out).mono ?_
  rintro e w' ⟨rfl, hb⟩
  replace HE := Lib.hid (ext_trans HE.out hb)
  replace By := Lib.hid (By.out.next hb)
  replace HV := Lib.hid (HV.out.next hb)
  replace N1 := Lib.hid (N1.out.next hb)
  replace X := Lib.hid (X.out.next hb)
  replace K2 := Lib.hid (K2.out.next hb)
  replace K3 := Lib.hid (K3.out.next hb)
  replace K5 := Lib.hid (K5.out.next hb)
  replace K6 := Lib.hid (K6.out.next hb)
  replace Z7 := Lib.hid (Z7.out.next hb)
  replace Z8 := Lib.hid (Z8.out.next hb)
  replace N9 := Lib.hid (N9.out.next hb)
  replace K10 := Lib.hid (K10.out.next hb)
  replace K11 := Lib.hid (K11.out.next hb)
  replace K12 := Lib.hid (K12.out.next hb)
  replace N13 := Lib.hid (N13.out.next hb)
  replace K14 := Lib.hid (K14.out.next hb)
  replace K15 := Lib.hid (K15.out.next hb)
  replace K16 := Lib.hid (K16.out.next hb)
  replace K17 := Lib.hid (K17.out.next hb)
  clear hb
  clear K3
  go_wp2_with fail
  refine (sameT A5 A6 c5 c6 L2 _ K5.out K6.out).mono ?_
  rintro e w' ⟨rfl, hb⟩
  replace HE := Lib.hid (ext_trans HE.out hb)
  replace By := Lib.hid (By.out.next hb)
  replace HV := Lib.hid (HV.out.next hb)
  replace N1 := Lib.hid (N1.out.next hb)
  replace X := Lib.hid (X.out.next hb)
  replace K2 := Lib.hid (K2.out.next hb)
  replace K5 := Lib.hid (K5.out.next hb)
  replace K6 := Lib.hid (K6.out.next hb)
  replace Z7 := Lib.hid (Z7.out.next hb)
  replace Z8 := Lib.hid (Z8.out.next hb)
  replace N9 := Lib.hid (N9.out.next hb)
  replace K10 := Lib.hid (K10.out.next hb)
  replace K11 := Lib.hid (K11.out.next hb)
  replace K12 := Lib.hid (K12.out.next hb)
  replace N13 := Lib.hid (N13.out.next hb)
  replace K14 := Lib.hid (K14.out.next hb)
  replace K15 := Lib.hid (K15.out.next hb)
  replace K16 := Lib.hid (K16.out.next hb)
  replace K17 := Lib.hid (K17.out.next hb)
  clear hb
  clear K5 K6
  obtain ⟨W9, hW9⟩ : ∃ W, W = w' := ⟨_, rfl⟩
  subst hW9
  have q0 := Z7.out.s.at 0 _ rfl
  have q1 := Z7.out.s.at 1 _ rfl
  have q2 := Z7.out.s.at 2 _ rfl
  have q3 := Z7.out.s.at 3 _ rfl
  have q4 := Z7.out.s.at 4 _ rfl
  have q5 := Z7.out.s.at 5 _ rfl
  have q6 := Z7.out.s.at 6 _ rfl
  have q7 := Z7.out.s.at 7 _ rfl
  have HB8 := (Z8.out.next (ext1 W9 (.cells #[.string z.name, .int .i64 z.kind, .int .i64 z.num, .int .i64 z.den, .slice T7 z.terms.length d7, .int .i64 z.sp, .int .i64 z.sd, .int .i64 z.sq] 31))).s
  have o0 := HB8.at 0 _ rfl
  have o1 := HB8.at 1 _ rfl
  have o2 := HB8.at 2 _ rfl
  have o3 := HB8.at 3 _ rfl
  have o4 := HB8.at 4 _ rfl
  have o5 := HB8.at 5 _ rfl
  have o6 := HB8.at 6 _ rfl
  have o7 := HB8.at 7 _ rfl
  clear HB8
  have hs1 := one_one W9 z T7 T8 d7 d8 HZF.out Z7.out Z8.out
  have hb0 := ext_alloc (ext1 W9 (.cells #[.string z.name, .int .i64 z.kind, .int .i64 z.num, .int .i64 z.den, .slice T7 z.terms.length d7, .int .i64 z.sp, .int .i64 z.sd, .int .i64 z.sq] 31)) (.cells #[.string z.name, .int .i64 z.kind, .int .i64 z.num, .int .i64 z.den, .slice T8 z.terms.length d8, .int .i64 z.sp, .int .i64 z.sd, .int .i64 z.sq] 31)
  have HS1 := Lib.hid hs1
  have HB0 := Lib.hid hb0
  clear hs1 hb0
  go_wp2_with fail
  refine (sameT _ _ 1 1 [z] _ HS1.out.1 HS1.out.2).mono ?_
  rintro e w22 ⟨rfl, hb1⟩
  have hb := ext_trans HB0.out hb1
  replace HE := Lib.hid (ext_trans HE.out hb)
  replace By := Lib.hid (By.out.next hb)
  replace HV := Lib.hid (HV.out.next hb)
  replace N1 := Lib.hid (N1.out.next hb)
  replace X := Lib.hid (X.out.next hb)
  replace K2 := Lib.hid (K2.out.next hb)
  replace Z7 := Lib.hid (Z7.out.next hb)
  replace Z8 := Lib.hid (Z8.out.next hb)
  replace N9 := Lib.hid (N9.out.next hb)
  replace K10 := Lib.hid (K10.out.next hb)
  replace K11 := Lib.hid (K11.out.next hb)
  replace K12 := Lib.hid (K12.out.next hb)
  replace N13 := Lib.hid (N13.out.next hb)
  replace K14 := Lib.hid (K14.out.next hb)
  replace K15 := Lib.hid (K15.out.next hb)
  replace K16 := Lib.hid (K16.out.next hb)
  replace K17 := Lib.hid (K17.out.next hb)
  clear hb
  clear hb1 HS1 HB0 Z7 Z8 q0 q1 q2 q3 q4 q5 q6 q7 o0 o1 o2 o3 o4 o5 o6 o7
  go_wp2_with fail
  refine (HTS.out _ _ _ N9.out).mono ?_
  rintro e w' ⟨rfl, hb⟩
  replace HE := Lib.hid (ext_trans HE.out hb)
  replace By := Lib.hid (By.out.next hb)
  replace HV := Lib.hid (HV.out.next hb)
  replace N1 := Lib.hid (N1.out.next hb)
  replace X := Lib.hid (X.out.next hb)
  replace K2 := Lib.hid (K2.out.next hb)
  replace N9 := Lib.hid (N9.out.next hb)
  replace K10 := Lib.hid (K10.out.next hb)
  replace K11 := Lib.hid (K11.out.next hb)
  replace K12 := Lib.hid (K12.out.next hb)
  replace N13 := Lib.hid (N13.out.next hb)
  replace K14 := Lib.hid (K14.out.next hb)
  replace K15 := Lib.hid (K15.out.next hb)
  replace K16 := Lib.hid (K16.out.next hb)
  replace K17 := Lib.hid (K17.out.next hb)
  clear hb
  clear HTS
  by_cases hE : E = ⟨#[]⟩
  · have hE2 : (E.toList == ([] : List UInt8)) = true := by rw [hE, ByteArray.toList_eq]; rfl
    clear hE HTE
    go_wp2_with fail
    refine (sameT A11 A12 c11 c12 R2 _ K11.out K12.out).mono ?_
    rintro e w' ⟨rfl, hb⟩
    replace HE := Lib.hid (ext_trans HE.out hb)
    replace By := Lib.hid (By.out.next hb)
    replace HV := Lib.hid (HV.out.next hb)
    replace N1 := Lib.hid (N1.out.next hb)
    replace X := Lib.hid (X.out.next hb)
    replace K2 := Lib.hid (K2.out.next hb)
    replace N9 := Lib.hid (N9.out.next hb)
    replace K10 := Lib.hid (K10.out.next hb)
    replace K11 := Lib.hid (K11.out.next hb)
    replace K12 := Lib.hid (K12.out.next hb)
    replace N13 := Lib.hid (N13.out.next hb)
    replace K14 := Lib.hid (K14.out.next hb)
    replace K15 := Lib.hid (K15.out.next hb)
    replace K16 := Lib.hid (K16.out.next hb)
    replace K17 := Lib.hid (K17.out.next hb)
    clear hb
    go_wp2_with fail
    refine (sameT A14 A15 c14 c15 U _ K14.out K15.out).mono ?_
    rintro e w' ⟨rfl, hb⟩
    replace HE := Lib.hid (ext_trans HE.out hb)
    replace By := Lib.hid (By.out.next hb)
    replace HV := Lib.hid (HV.out.next hb)
    replace N1 := Lib.hid (N1.out.next hb)
    replace X := Lib.hid (X.out.next hb)
    replace K2 := Lib.hid (K2.out.next hb)
    replace N9 := Lib.hid (N9.out.next hb)
    replace K10 := Lib.hid (K10.out.next hb)
    replace K11 := Lib.hid (K11.out.next hb)
    replace K12 := Lib.hid (K12.out.next hb)
    replace N13 := Lib.hid (N13.out.next hb)
    replace K14 := Lib.hid (K14.out.next hb)
    replace K15 := Lib.hid (K15.out.next hb)
    replace K16 := Lib.hid (K16.out.next hb)
    replace K17 := Lib.hid (K17.out.next hb)
    clear hb
    go_wp2_with fail
    refine (HGI.out _ _ _ _ _ K16.out K17.out).mono ?_
    rintro e w' ⟨rfl, hb⟩
    replace HE := Lib.hid (ext_trans HE.out hb)
    replace By := Lib.hid (By.out.next hb)
    replace HV := Lib.hid (HV.out.next hb)
    replace N1 := Lib.hid (N1.out.next hb)
    replace X := Lib.hid (X.out.next hb)
    replace K2 := Lib.hid (K2.out.next hb)
    replace N9 := Lib.hid (N9.out.next hb)
    replace K10 := Lib.hid (K10.out.next hb)
    replace K11 := Lib.hid (K11.out.next hb)
    replace K12 := Lib.hid (K12.out.next hb)
    replace N13 := Lib.hid (N13.out.next hb)
    replace K14 := Lib.hid (K14.out.next hb)
    replace K15 := Lib.hid (K15.out.next hb)
    replace K16 := Lib.hid (K16.out.next hb)
    replace K17 := Lib.hid (K17.out.next hb)
    clear hb
    go_wp2_with fail
    refine (HGS.out _ _ _ _ _ K16.out K17.out).mono ?_
    rintro e w' ⟨rfl, hb⟩
    replace HE := Lib.hid (ext_trans HE.out hb)
    replace By := Lib.hid (By.out.next hb)
    replace HV := Lib.hid (HV.out.next hb)
    replace N1 := Lib.hid (N1.out.next hb)
    replace X := Lib.hid (X.out.next hb)
    replace K2 := Lib.hid (K2.out.next hb)
    replace N9 := Lib.hid (N9.out.next hb)
    replace K10 := Lib.hid (K10.out.next hb)
    replace K11 := Lib.hid (K11.out.next hb)
    replace K12 := Lib.hid (K12.out.next hb)
    replace N13 := Lib.hid (N13.out.next hb)
    replace K14 := Lib.hid (K14.out.next hb)
    replace K15 := Lib.hid (K15.out.next hb)
    replace K16 := Lib.hid (K16.out.next hb)
    replace K17 := Lib.hid (K17.out.next hb)
    clear hb
    go_wp2_with fail
    refine (HVI.out _ _ _ N9.out).mono ?_
    rintro e w' ⟨rfl, hb⟩
    replace HE := Lib.hid (ext_trans HE.out hb)
    replace By := Lib.hid (By.out.next hb)
    replace HV := Lib.hid (HV.out.next hb)
    replace N1 := Lib.hid (N1.out.next hb)
    replace X := Lib.hid (X.out.next hb)
    replace K2 := Lib.hid (K2.out.next hb)
    replace N9 := Lib.hid (N9.out.next hb)
    replace K10 := Lib.hid (K10.out.next hb)
    replace K11 := Lib.hid (K11.out.next hb)
    replace K12 := Lib.hid (K12.out.next hb)
    replace N13 := Lib.hid (N13.out.next hb)
    replace K14 := Lib.hid (K14.out.next hb)
    replace K15 := Lib.hid (K15.out.next hb)
    replace K16 := Lib.hid (K16.out.next hb)
    replace K17 := Lib.hid (K17.out.next hb)
    clear hb
    go_wp2_with fail
    refine (HVS.out _ _ _ N9.out).mono ?_
    rintro e w' ⟨rfl, hb⟩
    replace HE := Lib.hid (ext_trans HE.out hb)
    replace By := Lib.hid (By.out.next hb)
    replace HV := Lib.hid (HV.out.next hb)
    replace N1 := Lib.hid (N1.out.next hb)
    replace X := Lib.hid (X.out.next hb)
    replace K2 := Lib.hid (K2.out.next hb)
    replace N9 := Lib.hid (N9.out.next hb)
    replace K10 := Lib.hid (K10.out.next hb)
    replace K11 := Lib.hid (K11.out.next hb)
    replace K12 := Lib.hid (K12.out.next hb)
    replace N13 := Lib.hid (N13.out.next hb)
    replace K14 := Lib.hid (K14.out.next hb)
    replace K15 := Lib.hid (K15.out.next hb)
    replace K16 := Lib.hid (K16.out.next hb)
    replace K17 := Lib.hid (K17.out.next hb)
    clear hb
    clear K10 K11 K12 K14 K15 K16 K17 HGI HGS HVI HVS N9
    by_cases h5 : k5 = 0
    · have HU := Lib.hid (HPU.out h5)
      subst h5
      clear HPU
      go_wp2_with fail
      refine (HU.out _).mono ?_
      rintro e w30 ⟨A18, c18, rfl, hK, hb⟩
      replace HE := Lib.hid (ext_trans HE.out hb)
      replace By := Lib.hid (By.out.next hb)
      replace HV := Lib.hid (HV.out.next hb)
      replace N1 := Lib.hid (N1.out.next hb)
      replace X := Lib.hid (X.out.next hb)
      replace K2 := Lib.hid (K2.out.next hb)
      replace N13 := Lib.hid (N13.out.next hb)
      clear hb
      have K18 := Lib.hid hK
      clear hK HU
      go_wp2_with fail
      refine (sameT A18 A13 c18 c13 p _ K18.out N13.out.nks).mono ?_
      rintro e w' ⟨rfl, hb⟩
      replace HE := Lib.hid (ext_trans HE.out hb)
      replace By := Lib.hid (By.out.next hb)
      replace HV := Lib.hid (HV.out.next hb)
      replace N1 := Lib.hid (N1.out.next hb)
      replace X := Lib.hid (X.out.next hb)
      replace K2 := Lib.hid (K2.out.next hb)
      replace N13 := Lib.hid (N13.out.next hb)
      replace K18 := Lib.hid (K18.out.next hb)
      clear hb
      clear K18 N13
      by_cases h1 : k1 = 0
      · obtain HD := Lib.hid (HD1.out h1)
        subst h1
        clear HD1
        have p0 := X.out.s.at 0 _ rfl
        have p1 := X.out.s.at 1 _ rfl
        have p2 := X.out.s.at 2 _ rfl
        have p3 := X.out.s.at 3 _ rfl
        have p4 := X.out.s.at 4 _ rfl
        have p5 := X.out.s.at 5 _ rfl
        have p6 := X.out.s.at 6 _ rfl
        have p7 := X.out.s.at 7 _ rfl
        go_wp2_with fail
        refine ((HD.out _ _ _ K2.out).1).mono ?_
        rintro e w31 ⟨A19, c19, rfl, hK, hb⟩
        replace HE := Lib.hid (ext_trans HE.out hb)
        replace By := Lib.hid (By.out.next hb)
        replace HV := Lib.hid (HV.out.next hb)
        replace N1 := Lib.hid (N1.out.next hb)
        replace X := Lib.hid (X.out.next hb)
        replace K2 := Lib.hid (K2.out.next hb)
        clear hb
        have K19 := Lib.hid hK
        clear hK p0 p1 p2 p3 p4 p5 p6 p7
        have p0 := X.out.s.at 0 _ rfl
        have p1 := X.out.s.at 1 _ rfl
        have p2 := X.out.s.at 2 _ rfl
        have p3 := X.out.s.at 3 _ rfl
        have p4 := X.out.s.at 4 _ rfl
        have p5 := X.out.s.at 5 _ rfl
        have p6 := X.out.s.at 6 _ rfl
        have p7 := X.out.s.at 7 _ rfl
        go_wp2_with fail
        refine ((HD.out _ _ _ K2.out).2).mono ?_
        rintro e w32 ⟨T20, d20, rfl, hT, hb⟩
        replace HE := Lib.hid (ext_trans HE.out hb)
        replace By := Lib.hid (By.out.next hb)
        replace HV := Lib.hid (HV.out.next hb)
        replace N1 := Lib.hid (N1.out.next hb)
        replace X := Lib.hid (X.out.next hb)
        replace K2 := Lib.hid (K2.out.next hb)
        replace K19 := Lib.hid (K19.out.next hb)
        clear hb
        have Z20 : Hid (Nb w32.heap.size x T20 d20 (w32.alloc (.cells #[.string x.name, .int .i64 x.kind, .int .i64 x.num, .int .i64 x.den, .slice T20 x.terms.length d20, .int .i64 x.sp, .int .i64 x.sd, .int .i64 x.sq] 31))) := ⟨BoxV.new _ _ _, (hT.below (ext1 _ _)).more (ext1 _ _).size⟩
        have hb0 := ext1 w32 (.cells #[.string x.name, .int .i64 x.kind, .int .i64 x.num, .int .i64 x.den, .slice T20 x.terms.length d20, .int .i64 x.sp, .int .i64 x.sd, .int .i64 x.sq] 31)
        replace HE := Lib.hid (ext_trans HE.out hb0)
        replace By := Lib.hid (By.out.next hb0)
        replace HV := Lib.hid (HV.out.next hb0)
        replace N1 := Lib.hid (N1.out.next hb0)
        replace X := Lib.hid (X.out.next hb0)
        replace K19 := Lib.hid (K19.out.next hb0)
        clear hb0 hT K2 HD p0 p1 p2 p3 p4 p5 p6 p7
        go_wp2_with fail
        generalize w32.alloc (.cells #[.string x.name, .int .i64 x.kind, .int .i64 x.num, .int .i64 x.den, .slice T20 x.terms.length d20, .int .i64 x.sp, .int .i64 x.sd, .int .i64 x.sq] 31) = W32 at *
        generalize w32.heap.size = b20 at *
        refine (sameT A19 A1 c19 c1 xs _ K19.out N1.out.nks).mono ?_
        rintro e w33 ⟨rfl, hb⟩
        replace HE := Lib.hid (ext_trans HE.out hb)
        replace By := Lib.hid (By.out.next hb)
        replace HV := Lib.hid (HV.out.next hb)
        replace N1 := Lib.hid (N1.out.next hb)
        replace X := Lib.hid (X.out.next hb)
        replace K19 := Lib.hid (K19.out.next hb)
        replace Z20 := Lib.hid (Z20.out.next hb)
        clear hb
        clear K19 N1
        have r0 := Z20.out.s.at 0 _ rfl
        have r1 := Z20.out.s.at 1 _ rfl
        have r2 := Z20.out.s.at 2 _ rfl
        have r3 := Z20.out.s.at 3 _ rfl
        have r4 := Z20.out.s.at 4 _ rfl
        have r5 := Z20.out.s.at 5 _ rfl
        have r6 := Z20.out.s.at 6 _ rfl
        have r7 := Z20.out.s.at 7 _ rfl
        have HB8 := (X.out.next (ext1 w33 (.cells #[.string x.name, .int .i64 x.kind, .int .i64 x.num, .int .i64 x.den, .slice T20 x.terms.length d20, .int .i64 x.sp, .int .i64 x.sd, .int .i64 x.sq] 31))).s
        have p0 := HB8.at 0 _ rfl
        have p1 := HB8.at 1 _ rfl
        have p2 := HB8.at 2 _ rfl
        have p3 := HB8.at 3 _ rfl
        have p4 := HB8.at 4 _ rfl
        have p5 := HB8.at 5 _ rfl
        have p6 := HB8.at 6 _ rfl
        have p7 := HB8.at 7 _ rfl
        clear HB8
        have hs1 := one_one w33 x T20 T d20 ct HXF.out Z20.out X.out
        have hb0 := ext_alloc (ext1 w33 (.cells #[.string x.name, .int .i64 x.kind, .int .i64 x.num, .int .i64 x.den, .slice T20 x.terms.length d20, .int .i64 x.sp, .int .i64 x.sd, .int .i64 x.sq] 31)) (.cells #[.string x.name, .int .i64 x.kind, .int .i64 x.num, .int .i64 x.den, .slice T x.terms.length ct, .int .i64 x.sp, .int .i64 x.sd, .int .i64 x.sq] 31)
        have HS1 := Lib.hid hs1
        have HB0 := Lib.hid hb0
        clear hs1 hb0
        go_wp2_with fail
        refine (sameT _ _ 1 1 [x] _ HS1.out.1 HS1.out.2).mono ?_
        rintro e w34 ⟨rfl, hb1⟩
        replace HE := Lib.hid (ext_trans HE.out (ext_trans HB0.out hb1))
        clear hb1 HB0 HS1
        go_wp2
        go_ret
        exact ⟨rfl, HE.out⟩
      · go_wp2
        go_ret
        exact ⟨rfl, HE.out⟩
    · clear HPU N13
      by_cases h1 : k1 = 0
      · obtain HD := Lib.hid (HD1.out h1)
        subst h1
        clear HD1
        have p0 := X.out.s.at 0 _ rfl
        have p1 := X.out.s.at 1 _ rfl
        have p2 := X.out.s.at 2 _ rfl
        have p3 := X.out.s.at 3 _ rfl
        have p4 := X.out.s.at 4 _ rfl
        have p5 := X.out.s.at 5 _ rfl
        have p6 := X.out.s.at 6 _ rfl
        have p7 := X.out.s.at 7 _ rfl
        go_wp2_with fail
        refine ((HD.out _ _ _ K2.out).1).mono ?_
        rintro e w31 ⟨A19, c19, rfl, hK, hb⟩
        replace HE := Lib.hid (ext_trans HE.out hb)
        replace By := Lib.hid (By.out.next hb)
        replace HV := Lib.hid (HV.out.next hb)
        replace N1 := Lib.hid (N1.out.next hb)
        replace X := Lib.hid (X.out.next hb)
        replace K2 := Lib.hid (K2.out.next hb)
        clear hb
        have K19 := Lib.hid hK
        clear hK p0 p1 p2 p3 p4 p5 p6 p7
        have p0 := X.out.s.at 0 _ rfl
        have p1 := X.out.s.at 1 _ rfl
        have p2 := X.out.s.at 2 _ rfl
        have p3 := X.out.s.at 3 _ rfl
        have p4 := X.out.s.at 4 _ rfl
        have p5 := X.out.s.at 5 _ rfl
        have p6 := X.out.s.at 6 _ rfl
        have p7 := X.out.s.at 7 _ rfl
        go_wp2_with fail
        refine ((HD.out _ _ _ K2.out).2).mono ?_
        rintro e w32 ⟨T20, d20, rfl, hT, hb⟩
        replace HE := Lib.hid (ext_trans HE.out hb)
        replace By := Lib.hid (By.out.next hb)
        replace HV := Lib.hid (HV.out.next hb)
        replace N1 := Lib.hid (N1.out.next hb)
        replace X := Lib.hid (X.out.next hb)
        replace K2 := Lib.hid (K2.out.next hb)
        replace K19 := Lib.hid (K19.out.next hb)
        clear hb
        have Z20 : Hid (Nb w32.heap.size x T20 d20 (w32.alloc (.cells #[.string x.name, .int .i64 x.kind, .int .i64 x.num, .int .i64 x.den, .slice T20 x.terms.length d20, .int .i64 x.sp, .int .i64 x.sd, .int .i64 x.sq] 31))) := ⟨BoxV.new _ _ _, (hT.below (ext1 _ _)).more (ext1 _ _).size⟩
        have hb0 := ext1 w32 (.cells #[.string x.name, .int .i64 x.kind, .int .i64 x.num, .int .i64 x.den, .slice T20 x.terms.length d20, .int .i64 x.sp, .int .i64 x.sd, .int .i64 x.sq] 31)
        replace HE := Lib.hid (ext_trans HE.out hb0)
        replace By := Lib.hid (By.out.next hb0)
        replace HV := Lib.hid (HV.out.next hb0)
        replace N1 := Lib.hid (N1.out.next hb0)
        replace X := Lib.hid (X.out.next hb0)
        replace K19 := Lib.hid (K19.out.next hb0)
        clear hb0 hT K2 HD p0 p1 p2 p3 p4 p5 p6 p7
        go_wp2_with fail
        generalize w32.alloc (.cells #[.string x.name, .int .i64 x.kind, .int .i64 x.num, .int .i64 x.den, .slice T20 x.terms.length d20, .int .i64 x.sp, .int .i64 x.sd, .int .i64 x.sq] 31) = W32 at *
        generalize w32.heap.size = b20 at *
        refine (sameT A19 A1 c19 c1 xs _ K19.out N1.out.nks).mono ?_
        rintro e w33 ⟨rfl, hb⟩
        replace HE := Lib.hid (ext_trans HE.out hb)
        replace By := Lib.hid (By.out.next hb)
        replace HV := Lib.hid (HV.out.next hb)
        replace N1 := Lib.hid (N1.out.next hb)
        replace X := Lib.hid (X.out.next hb)
        replace K19 := Lib.hid (K19.out.next hb)
        replace Z20 := Lib.hid (Z20.out.next hb)
        clear hb
        clear K19 N1
        have r0 := Z20.out.s.at 0 _ rfl
        have r1 := Z20.out.s.at 1 _ rfl
        have r2 := Z20.out.s.at 2 _ rfl
        have r3 := Z20.out.s.at 3 _ rfl
        have r4 := Z20.out.s.at 4 _ rfl
        have r5 := Z20.out.s.at 5 _ rfl
        have r6 := Z20.out.s.at 6 _ rfl
        have r7 := Z20.out.s.at 7 _ rfl
        have HB8 := (X.out.next (ext1 w33 (.cells #[.string x.name, .int .i64 x.kind, .int .i64 x.num, .int .i64 x.den, .slice T20 x.terms.length d20, .int .i64 x.sp, .int .i64 x.sd, .int .i64 x.sq] 31))).s
        have p0 := HB8.at 0 _ rfl
        have p1 := HB8.at 1 _ rfl
        have p2 := HB8.at 2 _ rfl
        have p3 := HB8.at 3 _ rfl
        have p4 := HB8.at 4 _ rfl
        have p5 := HB8.at 5 _ rfl
        have p6 := HB8.at 6 _ rfl
        have p7 := HB8.at 7 _ rfl
        clear HB8
        have hs1 := one_one w33 x T20 T d20 ct HXF.out Z20.out X.out
        have hb0 := ext_alloc (ext1 w33 (.cells #[.string x.name, .int .i64 x.kind, .int .i64 x.num, .int .i64 x.den, .slice T20 x.terms.length d20, .int .i64 x.sp, .int .i64 x.sd, .int .i64 x.sq] 31)) (.cells #[.string x.name, .int .i64 x.kind, .int .i64 x.num, .int .i64 x.den, .slice T x.terms.length ct, .int .i64 x.sp, .int .i64 x.sd, .int .i64 x.sq] 31)
        have HS1 := Lib.hid hs1
        have HB0 := Lib.hid hb0
        clear hs1 hb0
        go_wp2_with fail
        refine (sameT _ _ 1 1 [x] _ HS1.out.1 HS1.out.2).mono ?_
        rintro e w34 ⟨rfl, hb1⟩
        replace HE := Lib.hid (ext_trans HE.out (ext_trans HB0.out hb1))
        clear hb1 HB0 HS1
        go_wp2
        go_ret
        exact ⟨rfl, HE.out⟩
      · go_wp2
        go_ret
        exact ⟨rfl, HE.out⟩
  · obtain ⟨hok, hR⟩ := HTE.out hE
    have hE2 : (E.toList == ([] : List UInt8)) = false := toList_ne hE
    subst hok hR
    clear hE HTE
    go_wp2_with fail
    refine (sameT A10 A9 c10 c9 R _ K10.out N9.out.nks).mono ?_
    rintro e w' ⟨rfl, hb⟩
    replace HE := Lib.hid (ext_trans HE.out hb)
    replace By := Lib.hid (By.out.next hb)
    replace HV := Lib.hid (HV.out.next hb)
    replace N1 := Lib.hid (N1.out.next hb)
    replace X := Lib.hid (X.out.next hb)
    replace K2 := Lib.hid (K2.out.next hb)
    replace N9 := Lib.hid (N9.out.next hb)
    replace K10 := Lib.hid (K10.out.next hb)
    replace K11 := Lib.hid (K11.out.next hb)
    replace K12 := Lib.hid (K12.out.next hb)
    replace N13 := Lib.hid (N13.out.next hb)
    replace K14 := Lib.hid (K14.out.next hb)
    replace K15 := Lib.hid (K15.out.next hb)
    replace K16 := Lib.hid (K16.out.next hb)
    replace K17 := Lib.hid (K17.out.next hb)
    clear hb
    go_wp2_with fail
    refine (sameT A11 A12 c11 c12 R2 _ K11.out K12.out).mono ?_
    rintro e w' ⟨rfl, hb⟩
    replace HE := Lib.hid (ext_trans HE.out hb)
    replace By := Lib.hid (By.out.next hb)
    replace HV := Lib.hid (HV.out.next hb)
    replace N1 := Lib.hid (N1.out.next hb)
    replace X := Lib.hid (X.out.next hb)
    replace K2 := Lib.hid (K2.out.next hb)
    replace N9 := Lib.hid (N9.out.next hb)
    replace K10 := Lib.hid (K10.out.next hb)
    replace K11 := Lib.hid (K11.out.next hb)
    replace K12 := Lib.hid (K12.out.next hb)
    replace N13 := Lib.hid (N13.out.next hb)
    replace K14 := Lib.hid (K14.out.next hb)
    replace K15 := Lib.hid (K15.out.next hb)
    replace K16 := Lib.hid (K16.out.next hb)
    replace K17 := Lib.hid (K17.out.next hb)
    clear hb
    go_wp2_with fail
    refine (sameT A14 A15 c14 c15 U _ K14.out K15.out).mono ?_
    rintro e w' ⟨rfl, hb⟩
    replace HE := Lib.hid (ext_trans HE.out hb)
    replace By := Lib.hid (By.out.next hb)
    replace HV := Lib.hid (HV.out.next hb)
    replace N1 := Lib.hid (N1.out.next hb)
    replace X := Lib.hid (X.out.next hb)
    replace K2 := Lib.hid (K2.out.next hb)
    replace N9 := Lib.hid (N9.out.next hb)
    replace K10 := Lib.hid (K10.out.next hb)
    replace K11 := Lib.hid (K11.out.next hb)
    replace K12 := Lib.hid (K12.out.next hb)
    replace N13 := Lib.hid (N13.out.next hb)
    replace K14 := Lib.hid (K14.out.next hb)
    replace K15 := Lib.hid (K15.out.next hb)
    replace K16 := Lib.hid (K16.out.next hb)
    replace K17 := Lib.hid (K17.out.next hb)
    clear hb
    go_wp2_with fail
    refine (HGI.out _ _ _ _ _ K16.out K17.out).mono ?_
    rintro e w' ⟨rfl, hb⟩
    replace HE := Lib.hid (ext_trans HE.out hb)
    replace By := Lib.hid (By.out.next hb)
    replace HV := Lib.hid (HV.out.next hb)
    replace N1 := Lib.hid (N1.out.next hb)
    replace X := Lib.hid (X.out.next hb)
    replace K2 := Lib.hid (K2.out.next hb)
    replace N9 := Lib.hid (N9.out.next hb)
    replace K10 := Lib.hid (K10.out.next hb)
    replace K11 := Lib.hid (K11.out.next hb)
    replace K12 := Lib.hid (K12.out.next hb)
    replace N13 := Lib.hid (N13.out.next hb)
    replace K14 := Lib.hid (K14.out.next hb)
    replace K15 := Lib.hid (K15.out.next hb)
    replace K16 := Lib.hid (K16.out.next hb)
    replace K17 := Lib.hid (K17.out.next hb)
    clear hb
    go_wp2_with fail
    refine (HGS.out _ _ _ _ _ K16.out K17.out).mono ?_
    rintro e w' ⟨rfl, hb⟩
    replace HE := Lib.hid (ext_trans HE.out hb)
    replace By := Lib.hid (By.out.next hb)
    replace HV := Lib.hid (HV.out.next hb)
    replace N1 := Lib.hid (N1.out.next hb)
    replace X := Lib.hid (X.out.next hb)
    replace K2 := Lib.hid (K2.out.next hb)
    replace N9 := Lib.hid (N9.out.next hb)
    replace K10 := Lib.hid (K10.out.next hb)
    replace K11 := Lib.hid (K11.out.next hb)
    replace K12 := Lib.hid (K12.out.next hb)
    replace N13 := Lib.hid (N13.out.next hb)
    replace K14 := Lib.hid (K14.out.next hb)
    replace K15 := Lib.hid (K15.out.next hb)
    replace K16 := Lib.hid (K16.out.next hb)
    replace K17 := Lib.hid (K17.out.next hb)
    clear hb
    go_wp2_with fail
    refine (HVI.out _ _ _ N9.out).mono ?_
    rintro e w' ⟨rfl, hb⟩
    replace HE := Lib.hid (ext_trans HE.out hb)
    replace By := Lib.hid (By.out.next hb)
    replace HV := Lib.hid (HV.out.next hb)
    replace N1 := Lib.hid (N1.out.next hb)
    replace X := Lib.hid (X.out.next hb)
    replace K2 := Lib.hid (K2.out.next hb)
    replace N9 := Lib.hid (N9.out.next hb)
    replace K10 := Lib.hid (K10.out.next hb)
    replace K11 := Lib.hid (K11.out.next hb)
    replace K12 := Lib.hid (K12.out.next hb)
    replace N13 := Lib.hid (N13.out.next hb)
    replace K14 := Lib.hid (K14.out.next hb)
    replace K15 := Lib.hid (K15.out.next hb)
    replace K16 := Lib.hid (K16.out.next hb)
    replace K17 := Lib.hid (K17.out.next hb)
    clear hb
    go_wp2_with fail
    refine (HVS.out _ _ _ N9.out).mono ?_
    rintro e w' ⟨rfl, hb⟩
    replace HE := Lib.hid (ext_trans HE.out hb)
    replace By := Lib.hid (By.out.next hb)
    replace HV := Lib.hid (HV.out.next hb)
    replace N1 := Lib.hid (N1.out.next hb)
    replace X := Lib.hid (X.out.next hb)
    replace K2 := Lib.hid (K2.out.next hb)
    replace N9 := Lib.hid (N9.out.next hb)
    replace K10 := Lib.hid (K10.out.next hb)
    replace K11 := Lib.hid (K11.out.next hb)
    replace K12 := Lib.hid (K12.out.next hb)
    replace N13 := Lib.hid (N13.out.next hb)
    replace K14 := Lib.hid (K14.out.next hb)
    replace K15 := Lib.hid (K15.out.next hb)
    replace K16 := Lib.hid (K16.out.next hb)
    replace K17 := Lib.hid (K17.out.next hb)
    clear hb
    clear K10 K11 K12 K14 K15 K16 K17 HGI HGS HVI HVS N9
    by_cases h5 : k5 = 0
    · have HU := Lib.hid (HPU.out h5)
      subst h5
      clear HPU
      go_wp2_with fail
      refine (HU.out _).mono ?_
      rintro e w30 ⟨A18, c18, rfl, hK, hb⟩
      replace HE := Lib.hid (ext_trans HE.out hb)
      replace By := Lib.hid (By.out.next hb)
      replace HV := Lib.hid (HV.out.next hb)
      replace N1 := Lib.hid (N1.out.next hb)
      replace X := Lib.hid (X.out.next hb)
      replace K2 := Lib.hid (K2.out.next hb)
      replace N13 := Lib.hid (N13.out.next hb)
      clear hb
      have K18 := Lib.hid hK
      clear hK HU
      go_wp2_with fail
      refine (sameT A18 A13 c18 c13 p _ K18.out N13.out.nks).mono ?_
      rintro e w' ⟨rfl, hb⟩
      replace HE := Lib.hid (ext_trans HE.out hb)
      replace By := Lib.hid (By.out.next hb)
      replace HV := Lib.hid (HV.out.next hb)
      replace N1 := Lib.hid (N1.out.next hb)
      replace X := Lib.hid (X.out.next hb)
      replace K2 := Lib.hid (K2.out.next hb)
      replace N13 := Lib.hid (N13.out.next hb)
      replace K18 := Lib.hid (K18.out.next hb)
      clear hb
      clear K18 N13
      by_cases h1 : k1 = 0
      · obtain HD := Lib.hid (HD1.out h1)
        subst h1
        clear HD1
        have p0 := X.out.s.at 0 _ rfl
        have p1 := X.out.s.at 1 _ rfl
        have p2 := X.out.s.at 2 _ rfl
        have p3 := X.out.s.at 3 _ rfl
        have p4 := X.out.s.at 4 _ rfl
        have p5 := X.out.s.at 5 _ rfl
        have p6 := X.out.s.at 6 _ rfl
        have p7 := X.out.s.at 7 _ rfl
        go_wp2_with fail
        refine ((HD.out _ _ _ K2.out).1).mono ?_
        rintro e w31 ⟨A19, c19, rfl, hK, hb⟩
        replace HE := Lib.hid (ext_trans HE.out hb)
        replace By := Lib.hid (By.out.next hb)
        replace HV := Lib.hid (HV.out.next hb)
        replace N1 := Lib.hid (N1.out.next hb)
        replace X := Lib.hid (X.out.next hb)
        replace K2 := Lib.hid (K2.out.next hb)
        clear hb
        have K19 := Lib.hid hK
        clear hK p0 p1 p2 p3 p4 p5 p6 p7
        have p0 := X.out.s.at 0 _ rfl
        have p1 := X.out.s.at 1 _ rfl
        have p2 := X.out.s.at 2 _ rfl
        have p3 := X.out.s.at 3 _ rfl
        have p4 := X.out.s.at 4 _ rfl
        have p5 := X.out.s.at 5 _ rfl
        have p6 := X.out.s.at 6 _ rfl
        have p7 := X.out.s.at 7 _ rfl
        go_wp2_with fail
        refine ((HD.out _ _ _ K2.out).2).mono ?_
        rintro e w32 ⟨T20, d20, rfl, hT, hb⟩
        replace HE := Lib.hid (ext_trans HE.out hb)
        replace By := Lib.hid (By.out.next hb)
        replace HV := Lib.hid (HV.out.next hb)
        replace N1 := Lib.hid (N1.out.next hb)
        replace X := Lib.hid (X.out.next hb)
        replace K2 := Lib.hid (K2.out.next hb)
        replace K19 := Lib.hid (K19.out.next hb)
        clear hb
        have Z20 : Hid (Nb w32.heap.size x T20 d20 (w32.alloc (.cells #[.string x.name, .int .i64 x.kind, .int .i64 x.num, .int .i64 x.den, .slice T20 x.terms.length d20, .int .i64 x.sp, .int .i64 x.sd, .int .i64 x.sq] 31))) := ⟨BoxV.new _ _ _, (hT.below (ext1 _ _)).more (ext1 _ _).size⟩
        have hb0 := ext1 w32 (.cells #[.string x.name, .int .i64 x.kind, .int .i64 x.num, .int .i64 x.den, .slice T20 x.terms.length d20, .int .i64 x.sp, .int .i64 x.sd, .int .i64 x.sq] 31)
        replace HE := Lib.hid (ext_trans HE.out hb0)
        replace By := Lib.hid (By.out.next hb0)
        replace HV := Lib.hid (HV.out.next hb0)
        replace N1 := Lib.hid (N1.out.next hb0)
        replace X := Lib.hid (X.out.next hb0)
        replace K19 := Lib.hid (K19.out.next hb0)
        clear hb0 hT K2 HD p0 p1 p2 p3 p4 p5 p6 p7
        go_wp2_with fail
        generalize w32.alloc (.cells #[.string x.name, .int .i64 x.kind, .int .i64 x.num, .int .i64 x.den, .slice T20 x.terms.length d20, .int .i64 x.sp, .int .i64 x.sd, .int .i64 x.sq] 31) = W32 at *
        generalize w32.heap.size = b20 at *
        refine (sameT A19 A1 c19 c1 xs _ K19.out N1.out.nks).mono ?_
        rintro e w33 ⟨rfl, hb⟩
        replace HE := Lib.hid (ext_trans HE.out hb)
        replace By := Lib.hid (By.out.next hb)
        replace HV := Lib.hid (HV.out.next hb)
        replace N1 := Lib.hid (N1.out.next hb)
        replace X := Lib.hid (X.out.next hb)
        replace K19 := Lib.hid (K19.out.next hb)
        replace Z20 := Lib.hid (Z20.out.next hb)
        clear hb
        clear K19 N1
        have r0 := Z20.out.s.at 0 _ rfl
        have r1 := Z20.out.s.at 1 _ rfl
        have r2 := Z20.out.s.at 2 _ rfl
        have r3 := Z20.out.s.at 3 _ rfl
        have r4 := Z20.out.s.at 4 _ rfl
        have r5 := Z20.out.s.at 5 _ rfl
        have r6 := Z20.out.s.at 6 _ rfl
        have r7 := Z20.out.s.at 7 _ rfl
        have HB8 := (X.out.next (ext1 w33 (.cells #[.string x.name, .int .i64 x.kind, .int .i64 x.num, .int .i64 x.den, .slice T20 x.terms.length d20, .int .i64 x.sp, .int .i64 x.sd, .int .i64 x.sq] 31))).s
        have p0 := HB8.at 0 _ rfl
        have p1 := HB8.at 1 _ rfl
        have p2 := HB8.at 2 _ rfl
        have p3 := HB8.at 3 _ rfl
        have p4 := HB8.at 4 _ rfl
        have p5 := HB8.at 5 _ rfl
        have p6 := HB8.at 6 _ rfl
        have p7 := HB8.at 7 _ rfl
        clear HB8
        have hs1 := one_one w33 x T20 T d20 ct HXF.out Z20.out X.out
        have hb0 := ext_alloc (ext1 w33 (.cells #[.string x.name, .int .i64 x.kind, .int .i64 x.num, .int .i64 x.den, .slice T20 x.terms.length d20, .int .i64 x.sp, .int .i64 x.sd, .int .i64 x.sq] 31)) (.cells #[.string x.name, .int .i64 x.kind, .int .i64 x.num, .int .i64 x.den, .slice T x.terms.length ct, .int .i64 x.sp, .int .i64 x.sd, .int .i64 x.sq] 31)
        have HS1 := Lib.hid hs1
        have HB0 := Lib.hid hb0
        clear hs1 hb0
        go_wp2_with fail
        refine (sameT _ _ 1 1 [x] _ HS1.out.1 HS1.out.2).mono ?_
        rintro e w34 ⟨rfl, hb1⟩
        replace HE := Lib.hid (ext_trans HE.out (ext_trans HB0.out hb1))
        clear hb1 HB0 HS1
        go_wp2
        go_ret
        exact ⟨rfl, HE.out⟩
      · go_wp2
        go_ret
        exact ⟨rfl, HE.out⟩
    · clear HPU N13
      by_cases h1 : k1 = 0
      · obtain HD := Lib.hid (HD1.out h1)
        subst h1
        clear HD1
        have p0 := X.out.s.at 0 _ rfl
        have p1 := X.out.s.at 1 _ rfl
        have p2 := X.out.s.at 2 _ rfl
        have p3 := X.out.s.at 3 _ rfl
        have p4 := X.out.s.at 4 _ rfl
        have p5 := X.out.s.at 5 _ rfl
        have p6 := X.out.s.at 6 _ rfl
        have p7 := X.out.s.at 7 _ rfl
        go_wp2_with fail
        refine ((HD.out _ _ _ K2.out).1).mono ?_
        rintro e w31 ⟨A19, c19, rfl, hK, hb⟩
        replace HE := Lib.hid (ext_trans HE.out hb)
        replace By := Lib.hid (By.out.next hb)
        replace HV := Lib.hid (HV.out.next hb)
        replace N1 := Lib.hid (N1.out.next hb)
        replace X := Lib.hid (X.out.next hb)
        replace K2 := Lib.hid (K2.out.next hb)
        clear hb
        have K19 := Lib.hid hK
        clear hK p0 p1 p2 p3 p4 p5 p6 p7
        have p0 := X.out.s.at 0 _ rfl
        have p1 := X.out.s.at 1 _ rfl
        have p2 := X.out.s.at 2 _ rfl
        have p3 := X.out.s.at 3 _ rfl
        have p4 := X.out.s.at 4 _ rfl
        have p5 := X.out.s.at 5 _ rfl
        have p6 := X.out.s.at 6 _ rfl
        have p7 := X.out.s.at 7 _ rfl
        go_wp2_with fail
        refine ((HD.out _ _ _ K2.out).2).mono ?_
        rintro e w32 ⟨T20, d20, rfl, hT, hb⟩
        replace HE := Lib.hid (ext_trans HE.out hb)
        replace By := Lib.hid (By.out.next hb)
        replace HV := Lib.hid (HV.out.next hb)
        replace N1 := Lib.hid (N1.out.next hb)
        replace X := Lib.hid (X.out.next hb)
        replace K2 := Lib.hid (K2.out.next hb)
        replace K19 := Lib.hid (K19.out.next hb)
        clear hb
        have Z20 : Hid (Nb w32.heap.size x T20 d20 (w32.alloc (.cells #[.string x.name, .int .i64 x.kind, .int .i64 x.num, .int .i64 x.den, .slice T20 x.terms.length d20, .int .i64 x.sp, .int .i64 x.sd, .int .i64 x.sq] 31))) := ⟨BoxV.new _ _ _, (hT.below (ext1 _ _)).more (ext1 _ _).size⟩
        have hb0 := ext1 w32 (.cells #[.string x.name, .int .i64 x.kind, .int .i64 x.num, .int .i64 x.den, .slice T20 x.terms.length d20, .int .i64 x.sp, .int .i64 x.sd, .int .i64 x.sq] 31)
        replace HE := Lib.hid (ext_trans HE.out hb0)
        replace By := Lib.hid (By.out.next hb0)
        replace HV := Lib.hid (HV.out.next hb0)
        replace N1 := Lib.hid (N1.out.next hb0)
        replace X := Lib.hid (X.out.next hb0)
        replace K19 := Lib.hid (K19.out.next hb0)
        clear hb0 hT K2 HD p0 p1 p2 p3 p4 p5 p6 p7
        go_wp2_with fail
        generalize w32.alloc (.cells #[.string x.name, .int .i64 x.kind, .int .i64 x.num, .int .i64 x.den, .slice T20 x.terms.length d20, .int .i64 x.sp, .int .i64 x.sd, .int .i64 x.sq] 31) = W32 at *
        generalize w32.heap.size = b20 at *
        refine (sameT A19 A1 c19 c1 xs _ K19.out N1.out.nks).mono ?_
        rintro e w33 ⟨rfl, hb⟩
        replace HE := Lib.hid (ext_trans HE.out hb)
        replace By := Lib.hid (By.out.next hb)
        replace HV := Lib.hid (HV.out.next hb)
        replace N1 := Lib.hid (N1.out.next hb)
        replace X := Lib.hid (X.out.next hb)
        replace K19 := Lib.hid (K19.out.next hb)
        replace Z20 := Lib.hid (Z20.out.next hb)
        clear hb
        clear K19 N1
        have r0 := Z20.out.s.at 0 _ rfl
        have r1 := Z20.out.s.at 1 _ rfl
        have r2 := Z20.out.s.at 2 _ rfl
        have r3 := Z20.out.s.at 3 _ rfl
        have r4 := Z20.out.s.at 4 _ rfl
        have r5 := Z20.out.s.at 5 _ rfl
        have r6 := Z20.out.s.at 6 _ rfl
        have r7 := Z20.out.s.at 7 _ rfl
        have HB8 := (X.out.next (ext1 w33 (.cells #[.string x.name, .int .i64 x.kind, .int .i64 x.num, .int .i64 x.den, .slice T20 x.terms.length d20, .int .i64 x.sp, .int .i64 x.sd, .int .i64 x.sq] 31))).s
        have p0 := HB8.at 0 _ rfl
        have p1 := HB8.at 1 _ rfl
        have p2 := HB8.at 2 _ rfl
        have p3 := HB8.at 3 _ rfl
        have p4 := HB8.at 4 _ rfl
        have p5 := HB8.at 5 _ rfl
        have p6 := HB8.at 6 _ rfl
        have p7 := HB8.at 7 _ rfl
        clear HB8
        have hs1 := one_one w33 x T20 T d20 ct HXF.out Z20.out X.out
        have hb0 := ext_alloc (ext1 w33 (.cells #[.string x.name, .int .i64 x.kind, .int .i64 x.num, .int .i64 x.den, .slice T20 x.terms.length d20, .int .i64 x.sp, .int .i64 x.sd, .int .i64 x.sq] 31)) (.cells #[.string x.name, .int .i64 x.kind, .int .i64 x.num, .int .i64 x.den, .slice T x.terms.length ct, .int .i64 x.sp, .int .i64 x.sd, .int .i64 x.sq] 31)
        have HS1 := Lib.hid hs1
        have HB0 := Lib.hid hb0
        clear hs1 hb0
        go_wp2_with fail
        refine (sameT _ _ 1 1 [x] _ HS1.out.1 HS1.out.2).mono ?_
        rintro e w34 ⟨rfl, hb1⟩
        replace HE := Lib.hid (ext_trans HE.out (ext_trans HB0.out hb1))
        clear hb1 HB0 HS1
        go_wp2
        go_ret
        exact ⟨rfl, HE.out⟩
      · go_wp2
        go_ret
        exact ⟨rfl, HE.out⟩
set_option maxRecDepth 100000 in
theorem walk (A : Option Addr) (l c : Nat) (z : List Int) (w : World) (hV : Vars w) (hx : IsRow .u8 w A l c z) :
    Calls Tryz.prog 3 #[.slice A l c] w fun e w' => e = .returned (.bool true) ∧ Below w.heap.size w w' := by
  by_cases h : l ≤ 4096
  · exact walkG A l c w hV (hx.bytes (by omega)) h
  · have hf : 4096 < (l : Int) := by omega
    have hf6 : Hid (∀ W, Calls Tryz.prog 4 #[.slice A l c] W fun e w' => e = .returned (.bool true) ∧ W = w') := fun W => by
      have h := f6big_any A l c W
      rwa [decide_eq_true hf] at h
    clear hx hf h hV
    go_enter Tryz.func3, Tryz.ntmps3
    go_wp2_with fail
    refine (hf6.out _).mono ?_
    rintro e w' ⟨rfl, rfl⟩
    go_wp2
    go_ret
    exact ⟨rfl, Below.refl _ _⟩
theorem own : ownKnob Tryz.prog.godebug = none := by kernel_rfl
theorem laidOut : laidOutB Tryz.prog = true := by kernel_rfl
/-- How many blocks lie ahead of those of the errors. -/
noncomputable def low : Nat := (World.holding Tryz.prog default ⟨#[], #[], []⟩).heap.size
/-- A world in which the listed variables lie as the row tells. -/
noncomputable def laidWorld (os : Os) : World :=
  let w0 := World.holding Tryz.prog os ⟨#[.cells #[.string ⟨#[118, 97, 108, 117, 101, 32, 111, 117, 116, 32, 111, 102, 32, 114, 97, 110, 103, 101]⟩] 214, .cells #[.string ⟨#[105, 110, 118, 97, 108, 105, 100, 32, 115, 121, 110, 116, 97, 120]⟩] 214], #[], []⟩
  let put (h : Array Obj) (g : Nat) (cs : Array Value) : Array Obj := h.modify g fun
    | .cells _ t frozen => .cells cs t frozen
    | o => o
  let h0 := put w0.heap 7 #[.int .u8 0, .int .u8 1, .int .u8 28, .int .u8 2, .int .u8 29, .int .u8 14, .int .u8 24, .int .u8 3, .int .u8 30, .int .u8 22, .int .u8 20, .int .u8 15, .int .u8 25, .int .u8 17, .int .u8 4, .int .u8 8, .int .u8 31, .int .u8 27, .int .u8 13, .int .u8 23, .int .u8 21, .int .u8 19, .int .u8 16, .int .u8 7, .int .u8 26, .int .u8 12, .int .u8 18, .int .u8 6, .int .u8 11, .int .u8 5, .int .u8 10, .int .u8 9]
  let h1 := put h0 8 #[.int .u8 0, .int .u8 1, .int .u8 56, .int .u8 2, .int .u8 57, .int .u8 49, .int .u8 28, .int .u8 3, .int .u8 61, .int .u8 58, .int .u8 42, .int .u8 50, .int .u8 38, .int .u8 29, .int .u8 17, .int .u8 4, .int .u8 62, .int .u8 47, .int .u8 59, .int .u8 36, .int .u8 45, .int .u8 43, .int .u8 51, .int .u8 22, .int .u8 53, .int .u8 39, .int .u8 33, .int .u8 30, .int .u8 24, .int .u8 18, .int .u8 12, .int .u8 5, .int .u8 63, .int .u8 55, .int .u8 48, .int .u8 27, .int .u8 60, .int .u8 41, .int .u8 37, .int .u8 16, .int .u8 46, .int .u8 35, .int .u8 44, .int .u8 21, .int .u8 52, .int .u8 32, .int .u8 23, .int .u8 11, .int .u8 54, .int .u8 26, .int .u8 40, .int .u8 15, .int .u8 34, .int .u8 20, .int .u8 31, .int .u8 10, .int .u8 25, .int .u8 14, .int .u8 19, .int .u8 9, .int .u8 13, .int .u8 8, .int .u8 7, .int .u8 6]
  let h2 := put h1 2 #[.int .u64 1, .int .u64 10, .int .u64 100, .int .u64 1000, .int .u64 10000, .int .u64 100000, .int .u64 1000000, .int .u64 10000000, .int .u64 100000000, .int .u64 1000000000, .int .u64 10000000000, .int .u64 100000000000, .int .u64 1000000000000, .int .u64 10000000000000, .int .u64 100000000000000, .int .u64 1000000000000000, .int .u64 10000000000000000, .int .u64 100000000000000000, .int .u64 1000000000000000000, .int .u64 10000000000000000000]
  let h3 := put h2 4 #[.int .u8 128, .int .u8 191, .int .u8 160, .int .u8 191, .int .u8 128, .int .u8 159, .int .u8 144, .int .u8 191, .int .u8 128, .int .u8 143, .int .u8 0, .int .u8 0, .int .u8 0, .int .u8 0, .int .u8 0, .int .u8 0, .int .u8 0, .int .u8 0, .int .u8 0, .int .u8 0, .int .u8 0, .int .u8 0, .int .u8 0, .int .u8 0, .int .u8 0, .int .u8 0, .int .u8 0, .int .u8 0, .int .u8 0, .int .u8 0, .int .u8 0, .int .u8 0]
  let h4 := put h3 6 #[.iface 212 (.pointer (some ⟨low + 0, 0, none⟩))]
  let h5 := put h4 5 #[.iface 212 (.pointer (some ⟨low + 1, 0, none⟩))]
  let h6 := put h5 3 (Go.Pinned.utf8FirstZ.map fun (n : Nat) => Value.int .u8 (n : Int)).toArray
  { w0 with heap := h6 }
theorem laidWorld_met (os : Os) (args : Array Value) : laidMetH Tryz.prog Rows.fnNotesRow.laid ((laidWorld os).forCall (fun _ _ => 0) ⟨#[], args, []⟩).memory :=
  (LaidIn.of_run [7, 8, 2, 4, 6, 5, 3, low + 0, low + 1] 8 (by kernel_rfl) (by kernel_rfl) (by kernel_rfl) (by kernel_rfl) : LaidIn Tryz.prog ((laidWorld os).forCall (fun _ _ => 0) ⟨#[], args, []⟩).memory Rows.fnNotesRow.laid [7, 8, 2, 4, 6, 5, 3, low + 0, low + 1]).met
set_option linter.unusedVariables false in
set_option maxRecDepth 100000 in
theorem lifted (os : Os) (started : os.Started) (H : Type) (enc : TypeId × Value → H) :
    ReturnsInHanded {} Tryz.checked os 3 .any (fun w args => (Rows.fnNotesSpec.pre enc Tryz.prog Tryz.f3 [] false w args ∧ laidMetH Tryz.prog Rows.fnNotesRow.laid w) ∧ sizedMet enc Tryz.prog Tryz.f3 (OpenSpec.ofChange Rows.fnNotesSpec) false w args) (Rows.fnNotesSpec.post enc Tryz.prog Tryz.f3 false true false false) := by
  refine returnsInHanded_of_change_and_shaped (C := Tryz.checked) (X := fun w _ => laidMetH Tryz.prog Rows.fnNotesRow.laid w) (fun _ _ _ hh h => h.of_heap hh) own started (by kernel_rfl) Tryz.func3
    (ChangeSpec.witness_at (enc := enc) (C := Tryz.checked) (os := os) (X := fun w _ => laidMetH Tryz.prog Rows.fnNotesRow.laid w) false (laidWorld os) #[.slice none 0 0] 8 rfl (by kernel_rfl) (by kernel_rfl) (by kernel_rfl) (by kernel_rfl) (by kernel_rfl) (laidWorld_met os _)) ?_
  intro W base args ds gs before hval0 hW _ _ hL hsh _
  have hT : Lib.TabIs Tryz.prog W "internal/strconv.uint64pow10" .u64 Lib.pow10Tab := tab_of (laidMet.tail (laidMet.tail hL))
  have hT : Vars W := ⟨hT, len_of hsh, syn_of (laidMet.tail (laidMet.tail (laidMet.tail (laidMet.tail (laidMet.tail (hL)))))), rng_of (laidMet.tail (laidMet.tail (laidMet.tail (laidMet.tail (hL)))))⟩
  have hval : ∀ (j : Nat) t v, Tryz.f3.params[j]? = some t → args[j]? = some v → Value.okWide Tryz.prog W .any base t v := hval0
  have hW' := hW
  obtain ⟨p, q, hA0, hV, rfl, hfz, hnd⟩ := hW
  have hA : DataW.TrodAll enc Tryz.prog W 0 (fun _ => true) true Tryz.f3.params.toList args.toList ds p := hA0
  rw [Tryz.params3] at hA hval
  obtain ⟨v0, vs0, d0, ds0, p0, q0, hargs, rfl, rfl, h0, r0⟩ := trodAll_cons hA
  obtain ⟨rfl, rfl, rfl⟩ := trodAll_nil r0
  obtain rfl : args = #[v0] := by cases args; simp_all
  obtain ⟨rfl, rfl⟩ := trodVars_none hV
  have k0 := h0
  have lt0 : ∀ x ∈ p0, x.block < W.heap.size := by obtain ⟨m, hm⟩ := k0; exact DataW.trod_lt m _ _ _ hm
  obtain ⟨A0, l0, c0, rfl⟩ := okWide_slice Tryz.underlying22 (hval 0 22 v0 rfl rfl)
  obtain ⟨z0, w0⟩ : ∃ zs, IsRow .u8 W A0 l0 c0 zs := isRow_arg Tryz.underlying22 Tryz.underlying5 (by kernel_rfl) h0
  clear hA0 hval0
  refine (walk A0 l0 c0 z0 W hT w0).mono fun e W' ⟨he, bel⟩ => ?_
  subst he
  exact ⟨_, rfl, _, _, _, [], _, [], hW', trodAll_mk1 (shut_bool Tryz.underlying4 _), (trodAll_cons_mk (Below.trod laidOut (by kernel_rfl) (of_decide_eq_true (by kernel_rfl)) k0 bel lt0) trodAll_mk0), rfl, bel.frame _, fun h => by cases h⟩
theorem jPlace : (Rows.fnNotesRow.inPlace == Tryz.prog.inPlace 3) = true := by kernel_rfl
theorem jFollow : (Rows.fnNotesRow.unfollowed == Tryz.prog.unfollowed 3) = true := by kernel_rfl
theorem jRecurse : (Rows.fnNotesRow.recurses == Tryz.prog.recurses 3) = true := by kernel_rfl
theorem jNamed : (Rows.fnNotesRow.named == Tryz.prog.varsNamed 3) = true := by kernel_rfl
theorem joined : joinedFacts Tryz.prog 3 Tryz.f3 Rows.fnNotesSpec Rows.fnNotesRow = true :=
  joined_of (by kernel_rfl) (by kernel_rfl) (by kernel_rfl) (by kernel_rfl) (by kernel_rfl) jPlace jFollow jRecurse jNamed (by kernel_rfl) (by kernel_rfl) (by kernel_rfl) (by kernel_rfl) (by kernel_rfl) (by kernel_rfl) (by kernel_rfl) (by kernel_rfl) (by kernel_rfl) rfl rfl rfl rfl rfl rfl (by kernel_rfl) (by kernel_rfl) (by kernel_rfl)
theorem over : Rows.fnNotesRow.holds Tryz.pinned (OpenSpec.ofChange Rows.fnNotesSpec) :=
  OpenClaim.holds_of_wide 3 Tryz.f3 rfl rfl rfl rfl rfl rfl rfl ⟨rfl, rfl, rfl, rfl, rfl⟩ rfl rfl rfl rfl rfl (by kernel_rfl) Tryz.func3 joined
    (of_decide_eq_true (by kernel_rfl)) (by unfold Func.isWrapper; first | (rw [if_pos (by decide +kernel)]; kernel_rfl) | (rw [if_neg (by decide +kernel)]; exact ⟨rfl, rfl⟩))
    (fun os started H enc _ => lifted os started H enc)
theorem fname : Tryz.prog.funcNamed "loop.example/g01007/laws.FnNotes" = some 3 := by kernel_rfl
theorem stand22 : Tryz.prog.wantsStandIn 22 = false := by kernel_rfl
theorem proved : Rows.FnNotesCardSaid :=
  Claim7.holds_tied_plain_at .later [] [.data, .data, .data, .data, .sentinel, .sentinel, .pinned] true (true, "c24f1e4d17862361e687cbd2992980b3f01ed2d0c66e92ba68c08e73f884b6e0") true over (fun _ h => by cases h) (by kernel_rfl) (fun _ h => by cases h) fnNotes_row_tie rfl ⟨rfl, rfl⟩ (by kernel_rfl) rfl
    (fun f fn hf hfn => by
      obtain rfl : f = 3 := (Option.some.inj (fname.symm.trans hf)).symm
      obtain rfl : fn = Tryz.f3 := (Option.some.inj (Tryz.func3.symm.trans hfn)).symm
      exact ⟨by kernel_rfl, fun j t ht => by
        rw [Tryz.params3] at ht
        rcases j with _ | j
        · obtain rfl : t = 22 := by simpa using ht.symm
          exact stand22
        simp at ht⟩)
    (by kernel_rfl)
end Go.Proofs.YtpnabggpdgjbmaaGreatDoor.fnNotes
