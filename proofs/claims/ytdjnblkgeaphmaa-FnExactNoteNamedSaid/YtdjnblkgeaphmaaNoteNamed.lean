/- Law: the program's NoteNamed returns what the reference's returns, for all arguments. No condition. -/
import Derived.Test.YtdjnblkgeaphmaaFrame
import Derived.Test.YtdjnblkgeaphmaaOpenNt
import Derived.Test.YtdjnblkgeaphmaaNnS
import Derived.Test.YtdjnblkgeaphmaaNmLawP
namespace Go.Proofs.Ytdjnblkgeaphmaa.fnExactNoteNamed
open Go.ChangeShapes Go.WideShapes Go.ChangeAt Go.RowKit Go.Sort
open Go.ChangeMaps (open_string shut_string)

/-- What both return, as one note and a code. -/
def RetN1 (x : Nt) (k : Int) (W : World) (e : Ending) (w' : World) : Prop := ∃ B d, e = .returned (.tuple #[ntV x.name x.kind x.num x.den B x.terms.length d x.sp x.sd x.sq, .int .i64 k]) ∧ WrT w' W.heap.size B d x.terms ∧ Below W.heap.size W w'
theorem named_one (xs : List Nt) (s : ByteArray) (ht : ∀ x ∈ xs, x.terms.length ≤ 1048576) : ∃ (x : Nt) (k : Int), x.terms.length ≤ 1048576 ∧ ∀ W e w', RetNn W xs s e w' → RetN1 x k W e w' := by
  by_cases h : nnC xs s = 0
  · cases hx : xs[(fndN s xs 0).toNat]? with
    | none =>
      refine ⟨default, 0, by show 0 ≤ _; omega, fun W e w' hr => ?_⟩
      obtain ⟨x, B, d, h1, _⟩ := hr.1 h
      rw [hx] at h1; cases h1
    | some x =>
      refine ⟨x, 0, ht x (List.mem_of_getElem? hx), fun W e w' hr => ?_⟩
      obtain ⟨y, B, d, h1, h2, h3⟩ := hr.1 h
      rw [hx] at h1
      obtain rfl := Option.some.inj h1
      exact ⟨B, d, h2, h3, hr.2.2⟩
  · refine ⟨default, nnC xs s, by show 0 ≤ _; omega, fun W e w' hr => ⟨none, 0, hr.2.1 h, ⟨fun hn => absurd hn (by show ¬ 0 < 0; omega), Nat.le_refl _, by unfold maxLen; omega⟩, hr.2.2⟩⟩
set_option maxRecDepth 100000 in
set_option maxHeartbeats 2000000 in
theorem walkG (A : Option Addr) (c : Nat) (xs : List Nt) (s : ByteArray) (w : World) (hx : RdNt w w.heap.size A xs) (hf : ∀ x ∈ xs, x.fits) (hm : xs.length ≤ maxLen) (hs1 : (s.size : Int) ≤ 1048576) :
    Calls Try.prog 3 #[.slice A xs.length c, .string s] w fun e w' => e = .returned (.bool true) ∧ Below w.heap.size w w' := by
  obtain ⟨tx, htx⟩ : ∃ t : Nat, xs.length + ntTot xs = t := ⟨_, rfl⟩
  have HZ : Hid (∀ W, Below w.heap.size w W → Calls Try.prog 10 #[.slice A xs.length c, .int .i64 1048576] W fun e w' => e = .returned (.int .i64 (if (tx : Int) ≤ 1048576 then 1048576 - tx else -1)) ∧ Below W.heap.size W w') := fun W hb => by
    have := szNoteS_any A c xs 1048576 W (hx.next hb) hf hm (by omega) (by omega)
    rwa [htx] at this
  have B0 := Lib.hid (Below.refl w.heap.size w)
  have hs2 : decide (1048576 < (s.size : Int)) = false := decide_eq_false (by omega)
  by_cases h1 : (tx : Int) ≤ 1048576
  · rw [if_pos h1] at HZ
    have hl0 : 0 ≤ (1048576 : Int) - tx := by omega
    have hX : xs.length ≤ 1048576 ∧ ∀ x ∈ xs, x.terms.length ≤ 1048576 := ⟨by omega, fun x hx => by have := nt_le hx; omega⟩
    have hpos : posN xs xs.length ≤ 100000000 := by have := posN_tot xs; omega
    have HTO : Hid (∀ W, Below w.heap.size w W → Calls Try.prog 12 #[.slice A xs.length c] W fun e w' => ∃ D f, e = .returned (.slice D xs.length f) ∧ WrNd w' W.heap.size w'.heap.size D xs ∧ Below W.heap.size W w') := fun W h => toNoteS_nd A c xs W (hx.next h) hX.2 hX.1
    have HEQS : Hid (∀ W C D f g, RdNt W W.heap.size C xs → RdNt W W.heap.size D xs → Calls Try.prog 15 #[.slice C xs.length f, .slice D xs.length g] W fun e w' => e = .returned (.bool true) ∧ Below W.heap.size W w') := fun W C D f g h k => eqNoteS_any C D f g xs W h k (fun x hx => (hf x hx).2) hX.1
    obtain ⟨x, kc, hxl, hone⟩ := named_one xs s hX.2
    have HI : Hid (∀ C f W, RdNt W W.heap.size C xs → Calls Try.prog 13 #[.slice C xs.length f, .string s] W (RetN1 x kc W)) := fun C f W h => (iNoteNamed_any C f xs s W h hf hX.1 hX.2).mono fun e w' hr => hone W e w' hr
    have HS : Hid (∀ C f W, RdNt W W.heap.size C xs → Calls Try.prog 11 #[.slice C xs.length f, .string s] W (RetN1 x kc W)) := fun C f W h => (sNoteNamed_any C f xs s W h hf hX.1 hX.2).mono fun e w' hr => hone W e w' hr
    unfold RetN1 at HI HS
    have HEQ : Hid (∀ (A B : Option Addr) (c d : Nat) (W : World), Rd (Value.int .i64) W W.heap.size A x.terms → Rd (Value.int .i64) W W.heap.size B x.terms → Calls Try.prog 14 #[ntV x.name x.kind x.num x.den A x.terms.length c x.sp x.sd x.sq, ntV x.name x.kind x.num x.den B x.terms.length d x.sp x.sd x.sq] W fun e w' => e = .returned (.bool true) ∧ Below W.heap.size W w') := fun A B c d W h1 h2 => eqNote_any x A B c d W h1 h2 (by unfold maxLen; omega)
    clear hX htx hone hx hf hm hs1
    unfold ntV at HI HS HEQ
    go_enter Try.func3, Try.ntmps3
    go_wp2_with fail
    refine (HZ.out _ B0.out).mono ?_
    rintro e w1 ⟨rfl, hb⟩
    have E := Lib.hid hb
    clear hb B0 HZ
    go_wp2_with fail
    refine (HTO.out _ E.out).mono ?_
    rintro e w2 ⟨A2, c2, rfl, hw2, hb⟩
    have E := Lib.hid (ext_trans E.out hb)
    clear hb
    go_wp2_with fail
    refine (HS.out _ _ _ hw2.rd).mono ?_
    rintro e w3 ⟨B0, d0, rfl, hw0, hb⟩
    have E := Lib.hid (ext_trans E.out hb)
    have T6 := Lib.hid hw0.rd.1
    clear hb hw0 hw2
    have X6 := Lib.hid (BoxV.new w3 #[.string x.name, .int .i64 x.kind, .int .i64 x.num, .int .i64 x.den, .slice B0 x.terms.length d0, .int .i64 x.sp, .int .i64 x.sd, .int .i64 x.sq] 30)
    have E := Lib.hid (ext_alloc E.out (.cells #[.string x.name, .int .i64 x.kind, .int .i64 x.num, .int .i64 x.den, .slice B0 x.terms.length d0, .int .i64 x.sp, .int .i64 x.sd, .int .i64 x.sq] 30))
    have T6 := Lib.hid (T6.out.next (ext1 w3 (.cells #[.string x.name, .int .i64 x.kind, .int .i64 x.num, .int .i64 x.den, .slice B0 x.terms.length d0, .int .i64 x.sp, .int .i64 x.sd, .int .i64 x.sq] 30)))
    obtain ⟨b6, hb6⟩ : ∃ b, b = w3.heap.size := ⟨_, rfl⟩
    have HB6 := Lib.hid hb6
    rw [← hb6] at X6
    clear hb6
    go_wp2_with fail
    rw [← HB6.out]
    generalize w3.alloc (.cells #[.string x.name, .int .i64 x.kind, .int .i64 x.num, .int .i64 x.den, .slice B0 x.terms.length d0, .int .i64 x.sp, .int .i64 x.sd, .int .i64 x.sq] 30) = W3 at *
    clear HB6
    refine (HTO.out _ E.out).mono ?_
    rintro e w4 ⟨A4, c4, rfl, hw4, hb4⟩
    have E3 := E
    have E := Lib.hid (ext_trans E.out hb4)
    have N4 := Lib.hid hw4
    have HB4 := Lib.hid hb4
    clear hw4 hb4
    go_wp2_with fail
    refine (HI.out _ _ _ N4.out.rd).mono ?_
    rintro e w5 ⟨B1, d1, rfl, hw5, hb5⟩
    have hsz := Lib.hid (And.intro HB4.out.size hb5.size)
    have D5 := Lib.hid (ext_trans HB4.out hb5)
    have D : Hid (Nm w b6 W3.heap.size w4.heap.size w5.heap.size (ntC x B0 d0) (ntC x B1 d1) B0 B1 x.terms x.terms (w5.alloc (.cells #[.string x.name, .int .i64 x.kind, .int .i64 x.num, .int .i64 x.den, .slice B1 x.terms.length d1, .int .i64 x.sp, .int .i64 x.sd, .int .i64 x.sq] 30))) :=
      ⟨ext_alloc (ext_trans E.out hb5) _, (X6.out.next D5.out).alloc _, (T6.out.below D5.out).below ((ext1 w5 _).mono (by have := hsz.out; omega)), BoxV.new w5 #[.string x.name, .int .i64 x.kind, .int .i64 x.num, .int .i64 x.den, .slice B1 x.terms.length d1, .int .i64 x.sp, .int .i64 x.sd, .int .i64 x.sq] 30, hw5.1.below (ext1 _ _), E3.out.size, X6.out.lt, hsz.out.1, hsz.out.2, fun t o i e hn => by
        obtain ⟨tb, to, e2, _, h2, _⟩ := hw5.1 hn
        rw [e] at e2
        injection e2 with e2
        injection e2 with e2
        omega⟩
    have N5 := Lib.hid ((N4.out.next (hb5.mono (Nat.le_refl _))).next ((ext1 w5 (.cells #[.string x.name, .int .i64 x.kind, .int .i64 x.num, .int .i64 x.den, .slice B1 x.terms.length d1, .int .i64 x.sp, .int .i64 x.sd, .int .i64 x.sq] 30)).mono hsz.out.2))
    clear hw5 hb5 N4 HB4 D5 E E3 X6 T6 HS
    obtain ⟨b9, hb9⟩ : ∃ b, b = w5.heap.size := ⟨_, rfl⟩
    have HB9 := Lib.hid hb9
    rw [← hb9] at D
    have y0 := D.out.x6.at 0 _ rfl
    have y1 := D.out.x6.at 1 _ rfl
    have y2 := D.out.x6.at 2 _ rfl
    have y3 := D.out.x6.at 3 _ rfl
    have y4 := D.out.x6.at 4 _ rfl
    have y5 := D.out.x6.at 5 _ rfl
    have y6 := D.out.x6.at 6 _ rfl
    have y7 := D.out.x6.at 7 _ rfl
    have z0 := D.out.x9.at 0 _ rfl
    have z1 := D.out.x9.at 1 _ rfl
    have z2 := D.out.x9.at 2 _ rfl
    have z3 := D.out.x9.at 3 _ rfl
    have z4 := D.out.x9.at 4 _ rfl
    have z5 := D.out.x9.at 5 _ rfl
    have z6 := D.out.x9.at 6 _ rfl
    have z7 := D.out.x9.at 7 _ rfl
    clear hb9
    go_wp2_with fail
    rw [← HB9.out]
    generalize w5.alloc (.cells #[.string x.name, .int .i64 x.kind, .int .i64 x.num, .int .i64 x.den, .slice B1 x.terms.length d1, .int .i64 x.sp, .int .i64 x.sd, .int .i64 x.sq] 30) = W5 at *
    clear HB9
    refine (HEQ.out _ _ _ _ _ D.out.t9.rd D.out.rd6).mono ?_
    rintro e w6 ⟨rfl, hb⟩
    have N5 := Lib.hid (N5.out.next (hb.mono N5.out.1))
    have D := Lib.hid (D.out.next hb)
    clear hb
    clear y0 y1 y2 y3 y4 y5 y6 y7
    clear z0 z1 z2 z3 z4 z5 z6 z7
    go_wp2_with fail
    refine (HTO.out _ D.out.a).mono ?_
    rintro e w7 ⟨A7, c7, rfl, hw7, hb⟩
    have N5 := Lib.hid (N5.out.next (hb.mono N5.out.1))
    have D := Lib.hid (D.out.next hb)
    clear hb
    go_wp2_with fail
    refine (HEQS.out _ _ _ _ _ (N5.out.rd.more N5.out.1) (hw7.rd.more hw7.1)).mono ?_
    rintro e w8 ⟨rfl, hb⟩
    have N5 := Lib.hid (N5.out.next (hb.mono N5.out.1))
    have D := Lib.hid (D.out.next hb)
    clear hb hw7 HEQS
    go_wp2_with fail
    refine (markNoteS_any A4 c4 xs W3.heap.size w4.heap.size 1 w8 N5.out hpos (by omega) (by omega)).mono ?_
    rintro e w9 ⟨rfl, _, hb, hs, hfar⟩
    have D := Lib.hid (D.out.marked hb hs hfar)
    clear hb hs hfar N5
    have hk0 : ¬ ((1 : Int) + (posN xs xs.length : Int) < 0) := by omega
    have y0 := D.out.x6.at 0 _ rfl
    have y1 := D.out.x6.at 1 _ rfl
    have y2 := D.out.x6.at 2 _ rfl
    have y3 := D.out.x6.at 3 _ rfl
    have y4 := D.out.x6.at 4 _ rfl
    have y5 := D.out.x6.at 5 _ rfl
    have y6 := D.out.x6.at 6 _ rfl
    have y7 := D.out.x6.at 7 _ rfl
    have z0 := D.out.x9.at 0 _ rfl
    have z1 := D.out.x9.at 1 _ rfl
    have z2 := D.out.x9.at 2 _ rfl
    have z3 := D.out.x9.at 3 _ rfl
    have z4 := D.out.x9.at 4 _ rfl
    have z5 := D.out.x9.at 5 _ rfl
    have z6 := D.out.x9.at 6 _ rfl
    have z7 := D.out.x9.at 7 _ rfl
    go_wp2_with fail
    refine (HEQ.out _ _ _ _ _ D.out.t9.rd D.out.rd6).mono ?_
    rintro e w10 ⟨rfl, hb⟩
    have D := Lib.hid (D.out.next hb)
    clear hb hk0 hpos
    clear y0 y1 y2 y3 y4 y5 y6 y7
    clear z0 z1 z2 z3 z4 z5 z6 z7
    have z0 := D.out.x9.at 0 _ rfl
    have z1 := D.out.x9.at 1 _ rfl
    have z2 := D.out.x9.at 2 _ rfl
    have z3 := D.out.x9.at 3 _ rfl
    have z4 := D.out.x9.at 4 _ rfl
    have z5 := D.out.x9.at 5 _ rfl
    have z6 := D.out.x9.at 6 _ rfl
    have z7 := D.out.x9.at 7 _ rfl
    go_wp2_with fail
    refine (markNote_full x B1 d1 w4.heap.size x.terms w10 rfl D.out.t9 hxl).mono ?_
    rintro e w11 ⟨rfl, w11', hb, hm, hb2, hs, ho⟩
    have D := Lib.hid ((D.out.next hb).remark hm (marks_length _ _) hb2 hs ho)
    clear hb hm hb2 hs ho
    clear z0 z1 z2 z3 z4 z5 z6 z7
    have z0 := D.out.x9.at 0 _ rfl
    have z1 := D.out.x9.at 1 _ rfl
    have z2 := D.out.x9.at 2 _ rfl
    have z3 := D.out.x9.at 3 _ rfl
    have z4 := D.out.x9.at 4 _ rfl
    have z5 := D.out.x9.at 5 _ rfl
    have z6 := D.out.x9.at 6 _ rfl
    have z7 := D.out.x9.at 7 _ rfl
    go_wp2_with fail
    refine (heldNote_any x B1 d1 w11 D.out.t9.rd hxl).mono ?_
    rintro e w12 ⟨rfl, hb⟩
    have D := Lib.hid (D.out.next hb)
    clear hb
    have hn0 : ¬ ((1 : Int) + (x.terms.length : Int) < 0) := by omega
    clear z0 z1 z2 z3 z4 z5 z6 z7
    go_wp2_with fail
    refine (HTO.out _ D.out.a).mono ?_
    rintro e w13 ⟨A13, c13, rfl, hw13, hb⟩
    have D := Lib.hid (D.out.next hb)
    clear hb
    go_wp2_with fail
    refine (HI.out _ _ _ (hw13.rd.more hw13.1)).mono ?_
    rintro e w14 ⟨B14, d14, rfl, hw14, hb⟩
    have D := Lib.hid (D.out.next hb)
    have T14 := Lib.hid (hw14.rd.1.next (ext1 w14 (.cells #[.string x.name, .int .i64 x.kind, .int .i64 x.num, .int .i64 x.den, .slice B14 x.terms.length d14, .int .i64 x.sp, .int .i64 x.sd, .int .i64 x.sq] 30)))
    have D := Lib.hid (D.out.next (ext1 w14 (.cells #[.string x.name, .int .i64 x.kind, .int .i64 x.num, .int .i64 x.den, .slice B14 x.terms.length d14, .int .i64 x.sp, .int .i64 x.sd, .int .i64 x.sq] 30)))
    clear hb hw13 hw14 HTO HI
    have y0 := D.out.x6.at 0 _ rfl
    have y1 := D.out.x6.at 1 _ rfl
    have y2 := D.out.x6.at 2 _ rfl
    have y3 := D.out.x6.at 3 _ rfl
    have y4 := D.out.x6.at 4 _ rfl
    have y5 := D.out.x6.at 5 _ rfl
    have y6 := D.out.x6.at 6 _ rfl
    have y7 := D.out.x6.at 7 _ rfl
    go_wp2_with fail
    generalize w14.alloc (.cells #[.string x.name, .int .i64 x.kind, .int .i64 x.num, .int .i64 x.den, .slice B14 x.terms.length d14, .int .i64 x.sp, .int .i64 x.sd, .int .i64 x.sq] 30) = W14 at *
    refine (HEQ.out _ _ _ _ _ T14.out D.out.rd6).mono ?_
    rintro e w15 ⟨rfl, hb⟩
    have D := Lib.hid (D.out.next hb)
    clear hb T14 HEQ
    clear y0 y1 y2 y3 y4 y5 y6 y7
    have z0 := D.out.x9.at 0 _ rfl
    have z1 := D.out.x9.at 1 _ rfl
    have z2 := D.out.x9.at 2 _ rfl
    have z3 := D.out.x9.at 3 _ rfl
    have z4 := D.out.x9.at 4 _ rfl
    have z5 := D.out.x9.at 5 _ rfl
    have z6 := D.out.x9.at 6 _ rfl
    have z7 := D.out.x9.at 7 _ rfl
    go_wp2_with fail
    refine (heldNote_any x B1 d1 w15 D.out.t9.rd hxl).mono ?_
    rintro e w16 ⟨rfl, hb⟩
    have D := Lib.hid (D.out.next hb)
    clear hb
    clear z0 z1 z2 z3 z4 z5 z6 z7
    go_wp2
    go_ret
    exact ⟨rfl, D.out.a⟩
  · rw [if_neg h1] at HZ
    go_enter Try.func3, Try.ntmps3
    go_wp2_with fail
    refine (HZ.out _ B0.out).mono ?_
    rintro e w1 ⟨rfl, hb1⟩
    go_wp2
    go_ret
    exact ⟨rfl, hb1⟩

theorem walk (A : Option Addr) (l c : Nat) (xs : List Nt) (s : ByteArray) (w : World) (hx : IsNt w A l xs) (_ : s.size ≤ maxLen) :
    Calls Try.prog 3 #[.slice A l c, .string s] w fun e w' => e = .returned (.bool true) ∧ Below w.heap.size w w' := by
  obtain ⟨rfl, h1, h2, h3⟩ := hx
  by_cases hs : (s.size : Int) ≤ 1048576
  · exact walkG A c xs s w h3 h2 h1 hs
  · have hs2 : decide (1048576 < (s.size : Int)) = true := decide_eq_true (by omega)
    clear h1 h2 h3
    go_enter Try.func3, Try.ntmps3
    go_wp2
    go_ret
    exact ⟨rfl, Below.refl _ _⟩

theorem own : ownKnob Try.prog.godebug = none := by kernel_rfl
theorem laidOut : laidOutB Try.prog = true := by kernel_rfl
set_option linter.unusedVariables false in
set_option maxRecDepth 100000 in
theorem lifted (os : Os) (started : os.Started) (H : Type) (enc : TypeId × Value → H) :
    ReturnsInHanded {} Try.checked os 3 .any (Rows.fnExactNoteNamedSpec.pre6 enc Try.prog Try.f3 Rows.fnExactNoteNamedRow.domain false) (Rows.fnExactNoteNamedSpec.post enc Try.prog Try.f3 false true false false) := by
  refine returnsInHanded_of_change (C := Try.checked) own started (by kernel_rfl) Try.func3
    (ChangeSpec.witness6 (enc := enc) (C := Try.checked) false ⟨#[], #[.slice none 0 0, .string ByteArray.empty], []⟩ 8 (by kernel_rfl) (by kernel_rfl) (by kernel_rfl) (by kernel_rfl)) ?_
  intro W base args ds gs before hval0 hW hcnd _
  have hval : ∀ (j : Nat) t v, Try.f3.params[j]? = some t → args[j]? = some v → Value.okWide Try.prog W .any base t v := hval0
  have hW' := hW
  obtain ⟨p, q, hA0, hV, rfl, hfz, hnd⟩ := hW
  have hA : DataW.TrodAll enc Try.prog W 0 (fun _ => true) true Try.f3.params.toList args.toList ds p := hA0
  rw [Try.params3] at hA hval
  obtain ⟨v0, vs0, d0, ds0, p0, q0, hargs, rfl, rfl, h0, r0⟩ := trodAll_cons hA
  obtain ⟨v1, vs1, d1, ds1, p1, q1, rfl, rfl, rfl, h1, r1⟩ := trodAll_cons r0
  obtain ⟨rfl, rfl, rfl⟩ := trodAll_nil r1
  obtain rfl : args = #[v0, v1] := by cases args; simp_all
  obtain ⟨rfl, rfl⟩ := trodVars_none hV
  have k0 := h0
  have lt0 : ∀ x ∈ p0, x.block < W.heap.size := by obtain ⟨m, hm⟩ := k0; exact DataW.trod_lt m _ _ _ hm
  obtain ⟨A0, l0, c0, rfl⟩ := okWide_slice Try.underlying22 (hval 0 22 v0 rfl rfl)
  obtain ⟨z0, w0⟩ : ∃ zs, IsNt W A0 l0 zs := isNt_arg h0
  have k1 := h1
  have lt1 : ∀ x ∈ p1, x.block < W.heap.size := by obtain ⟨m, hm⟩ := k1; exact DataW.trod_lt m _ _ _ hm
  obtain ⟨a1, rfl, rfl, rfl, w1⟩ := open_string Try.underlying9 (hval 1 9 v1 rfl rfl) h1
  clear hA0 hval0
  refine (walk A0 l0 c0 z0 a1 W w0 w1).mono fun e W' ⟨he, bel⟩ => ?_
  subst he
  exact ⟨_, rfl, _, _, _, [], _, [], hW', trodAll_mk1 (shut_bool Try.underlying4 _), (trodAll_cons_mk (Below.trod laidOut (by kernel_rfl) (of_decide_eq_true (by kernel_rfl)) k0 bel lt0) (trodAll_cons_mk (Below.trod laidOut (by kernel_rfl) (of_decide_eq_true (by kernel_rfl)) k1 bel lt1) trodAll_mk0)), rfl, bel.frame _, fun h => by cases h⟩

theorem jPlace : (Rows.fnExactNoteNamedRow.inPlace == Try.prog.inPlace 3) = true := by kernel_rfl
theorem jFollow : (Rows.fnExactNoteNamedRow.unfollowed == Try.prog.unfollowed 3) = true := by kernel_rfl
theorem jRecurse : (Rows.fnExactNoteNamedRow.recurses == Try.prog.recurses 3) = true := by kernel_rfl
theorem jNamed : (Rows.fnExactNoteNamedRow.named == Try.prog.varsNamed 3) = true := by kernel_rfl
theorem joined : joinedFacts Try.prog 3 Try.f3 Rows.fnExactNoteNamedSpec Rows.fnExactNoteNamedRow = true :=
  joined_of (by kernel_rfl) (by kernel_rfl) (by kernel_rfl) (by kernel_rfl) (by kernel_rfl) jPlace jFollow jRecurse jNamed (by kernel_rfl) (by kernel_rfl) (by kernel_rfl) (by kernel_rfl) (by kernel_rfl) (by kernel_rfl) (by kernel_rfl) (by kernel_rfl) (by kernel_rfl) rfl rfl rfl rfl rfl rfl (by kernel_rfl) (by kernel_rfl) (by kernel_rfl)
theorem over : Rows.fnExactNoteNamedRow.holds Try.pinned (OpenSpec.ofChange Rows.fnExactNoteNamedSpec) :=
  OpenClaim.holds_of_wide 3 Try.f3 rfl rfl rfl rfl rfl rfl rfl ⟨rfl, rfl, rfl, rfl, rfl⟩ rfl rfl rfl rfl rfl (by kernel_rfl) Try.func3 joined
    (of_decide_eq_true (by kernel_rfl)) (by unfold Func.isWrapper; first | (rw [if_pos (by decide +kernel)]; kernel_rfl) | (rw [if_neg (by decide +kernel)]; exact ⟨rfl, rfl⟩))
    (fun os started H enc _ => lifted os started H enc)

theorem proved : Rows.FnExactNoteNamedSaid := over
#print axioms proved
end Go.Proofs.Ytdjnblkgeaphmaa.fnExactNoteNamed
