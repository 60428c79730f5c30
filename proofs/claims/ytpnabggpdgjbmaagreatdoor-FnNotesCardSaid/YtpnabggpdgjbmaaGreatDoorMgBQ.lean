/- Parts of the proof, merged: NotesLawP Door DoorV. No condition but those that each theorem names. -/
import Derived.Test.YtpnabggpdgjbmaaGreatDoorMgAR
import Derived.Test.YtpnabggpdgjbmaaGreatDoorMgAV
import Derived.Test.YtpnabggpdgjbmaaGreatDoorMgAZ
import Derived.Test.YtpnabggpdgjbmaaGreatDoorMgBA
import Derived.Test.YtpnabggpdgjbmaaGreatDoorMgAY
import Derived.Test.YtpnabggpdgjbmaaGreatDoorMgAX
import Derived.Test.YtpnabggpdgjbmaaGreatDoorMgBB
import Derived.Test.YtpnabggpdgjbmaaGreatDoorMgBH
import Derived.Test.YtpnabggpdgjbmaaGreatDoorMgBK
import Derived.Test.YtpnabggpdgjbmaaGreatDoorMgBN
import Derived.Test.YtpnabggpdgjbmaaGreatDoorMgBP
import Derived.Test.YtpnabggpdgjbmaaGreatDoorMgAB
import Derived.Test.YtpnabggpdgjbmaaGreatDoorMgAS
import Derived.Test.YtpnabggpdgjbmaaGreatDoorCards
import Derived.Test.YtpnabggpdgjbmaaGreatDoorTie
import Derived.Lib.LaidTab
import Derived.Lib.LaidIn
import Derived.Stop.LaidErr
import Derived.LaidLaws
import Derived.SevenTiedAt
import Derived.ChangeVars
import Derived.Test.YtpnabggpdgjbmaaGreatDoorMgBE
import Derived.HandedShaped
import Derived.Shelf.Vars
namespace Go.Proofs.YtpnabggpdgjbmaaGreatDoor
open Go.RowKit Go.Sort
/-- Notes of moderate size. -/
def listOk (xs : List Nt) : Prop := xs.length ≤ 41 ∧ ∀ x ∈ xs, x.fits
theorem ntOk_fitsN {x : Nt} (h : ntOk x = true) : x.fits := by
  have h1 := (ntOk_bds h).1
  have h2 := (ntOk_nu h).2
  unfold Nt.fits maxLen
  refine ⟨by omega, ?_⟩
  rcases (ntOk_bds h).2 with h3 | h3 | h3
  · rw [(ntOk_1 h h3).1.1]; simp
  · have := (ntOk_2 h h3).2.1; omega
  · rw [(ntOk_3 h h3).1.2.2]; simp
theorem valid_ok {xs : List Nt} (h : validNt xs = true) : listOk xs := by
  obtain ⟨h1, h2⟩ := valid_all h
  exact ⟨by omega, fun x hx => ntOk_fitsN (h2 x hx)⟩
theorem nil_ok : listOk [] := ⟨by simp, fun x hx => by simp at hx⟩
theorem NkS.of {A : Option Addr} {xs : List Nt} {W : World} (h : RdNt W W.heap.size A xs) (k : listOk xs) : NkS A xs W := ⟨h, k.1, k.2⟩
/-- A slice of notes and a code; and a boolean. -/
def RetK (W : World) (L : List Nt) (k : Int) (e : Ending) (w' : World) : Prop := ∃ A c, e = .returned (.tuple #[.slice A L.length c, .int .i64 k]) ∧ NkS A L w' ∧ Below W.heap.size W w'
def RetKB (W : World) (L : List Nt) (k : Bool) (e : Ending) (w' : World) : Prop := ∃ A c, e = .returned (.tuple #[.slice A L.length c, .bool k]) ∧ NkS A L w' ∧ Below W.heap.size W w'
def RetZ (W : World) (z : Nt) (k : Int) (e : Ending) (w' : World) : Prop := ∃ T d, e = .returned (.tuple #[ntV z.name z.kind z.num z.den T z.terms.length d z.sp z.sd z.sq, .int .i64 k]) ∧ RdT w' w'.heap.size T d z.terms ∧ Below W.heap.size W w'
def RetP (W : World) (P : ByteArray) (k : Int) (e : Ending) (w' : World) : Prop := e = .returned (.tuple #[.string P, .int .i64 k]) ∧ Below W.heap.size W w'
theorem RetNtL.k {W : World} {L : List Nt} {k : Int} (hL : listOk L) {e : Ending} {w' : World} (h : RetNtL W L k e w') : RetK W L k e w' := by
  obtain ⟨A, c, he, hw, hb⟩ := h
  exact ⟨A, c, he, .of hw.rd hL, hb⟩
theorem RetNtK.k {W : World} {L : List Nt} {k : Bool} (hL : listOk L) {e : Ending} {w' : World} (h : RetNtK W L k e w') : RetKB W L k e w' := by
  obtain ⟨A, c, he, hw, hb⟩ := h
  exact ⟨A, c, he, .of hw.rd hL, hb⟩
theorem NkL.lst {A : Option Addr} {c : Nat} {xs : List Nt} {W : World} (h : NkL A c xs W) : (∀ x ∈ xs, x.fits) ∧ xs.length ≤ 1048576 ∧ (∀ x ∈ xs, x.terms.length ≤ 1048576) :=
  ⟨fun x hx => sm_fits (h.sm x hx), by have := h.len; omega, fun x hx => by have := (h.sm x hx).2; omega⟩
theorem anX_ok (xs : List Nt) (x : Nt) : listOk (anX xs x) := by
  unfold anX
  split
  · rename_i h
    have h1 := h
    unfold anC at h1
    split at h1
    · rename_i h2
      rw [Bool.and_eq_true] at h2
      obtain ⟨l1, l2⟩ := valid_ok h2.1
      have hk := anK_le xs x.name xs.length
      have hl := ins_len (x := x) (xs := xs) hk
      have h40 := (valid_all h2.1).1
      refine ⟨by rw [hl]; omega, fun y hy => ?_⟩
      rw [List.append_assoc] at hy
      rcases List.mem_append.1 hy with hy | hy
      · exact l2 y (List.mem_of_mem_take hy)
      · rcases List.mem_append.1 hy with hy | hy
        · simp only [List.mem_cons, List.not_mem_nil, or_false] at hy
          subst hy
          exact ntOk_fitsN h2.2
        · exact l2 y (List.mem_of_mem_drop hy)
    · cases h1
  · exact nil_ok
theorem dnX_ok {xs : List Nt} (s : ByteArray) : listOk (dnX xs s) := by
  unfold dnX
  split
  · rename_i h
    unfold nnC at h
    split at h
    · rename_i h2
      obtain ⟨l1, l2⟩ := valid_ok h2
      exact ⟨by have := List.length_eraseIdx_le xs (fndN s xs 0).toNat; omega, fun y hy => l2 y (List.mem_of_mem_eraseIdx hy)⟩
    · cases h
  · exact nil_ok
theorem rnX_ok (s : ByteArray) : listOk (rnX s) := by
  cases h : rnO s with
  | none => rw [(rn_none_ h).1]; exact nil_ok
  | some L => rw [(rn_some_ h).1]; exact valid_ok (rnO_iff.1 h).1
theorem unX_ok (s : ByteArray) : listOk (unX s) := by
  unfold unX upS
  split
  · rename_i h
    exact valid_ok h.choose_spec.1
  · exact nil_ok
/-- What NoteNamed hands back. -/
def nnZ (xs : List Nt) (s : ByteArray) : Nt := if nnC xs s = 0 then xs.getD (fndN s xs 0).toNat default else ⟨ByteArray.empty, 0, 0, 0, [], 0, 0, 0⟩
theorem RetNn.z {W : World} {xs : List Nt} {s : ByteArray} {e : Ending} {w' : World} (h : RetNn W xs s e w') : RetZ W (nnZ xs s) (nnC xs s) e w' := by
  obtain ⟨h1, h2, hb⟩ := h
  unfold nnZ
  by_cases hk : nnC xs s = 0
  · obtain ⟨x, B, d, hx, he, hw⟩ := h1 hk
    rw [if_pos hk, hk]
    have : xs.getD (fndN s xs 0).toNat default = x := by rw [List.getD_eq_getElem?_getD, hx]; rfl
    rw [this]
    exact ⟨B, d, he, hw.rd, hb⟩
  · rw [if_neg hk]
    exact ⟨none, 0, h2 hk, ⟨fun h => absurd h (by simp), by simp, by unfold maxLen; omega⟩, hb⟩
theorem nnZ_fits {xs : List Nt} (s : ByteArray) (h : ∀ x ∈ xs, x.fits) : (nnZ xs s).fits := by
  unfold nnZ
  split
  · rw [List.getD_eq_getElem?_getD]
    cases hx : xs[(fndN s xs 0).toNat]? with
    | none => exact ⟨by decide, by decide⟩
    | some x => exact h x (List.mem_of_getElem? hx)
  · exact ⟨by decide, by decide⟩
theorem ntEq_refl (x : Nt) : ntEq x x = true := by simp [ntEq]
theorem sameNt_refl : ∀ xs : List Nt, sameNt xs xs = true
  | [] => rfl
  | x :: xs => by
    show (ntEq x x && sameNt xs xs) = true
    rw [ntEq_refl, sameNt_refl xs]; rfl
/-- Two slices of the same notes. -/
theorem sameT (A B : Option Addr) (c d : Nat) (xs : List Nt) (W : World) (h1 : NkS A xs W) (h2 : NkS B xs W) :
    Calls Tryz.prog 25 #[.slice A xs.length c, .slice B xs.length d] W fun e w' => e = .returned (.bool true) ∧ Below W.heap.size W w' := by
  have h := sSameNotes_any A B c d xs xs W h1.rd h2.rd h1.fits h1.fits (by have := h1.len; unfold maxLen; omega)
  rwa [sameNt_refl] at h
theorem sames (g h : List Nt) : ∃ b : Bool, Hid (∀ A B c d W, NkS A g W → NkS B h W → Calls Tryz.prog 27 #[.slice A g.length c, .slice B h.length d] W fun e w' => e = .returned (.bool b) ∧ Below W.heap.size W w') ∧
    Hid (∀ A B c d W, NkS A g W → NkS B h W → Calls Tryz.prog 25 #[.slice A g.length c, .slice B h.length d] W fun e w' => e = .returned (.bool b) ∧ Below W.heap.size W w') :=
  ⟨sameNt g h, fun A B c d W h1 h2 => iSameNotes_any A B c d g h W h1.rd h2.rd h1.fits h2.fits (by have := h1.len; unfold maxLen; omega), fun A B c d W h1 h2 => sSameNotes_any A B c d g h W h1.rd h2.rd h1.fits h2.fits (by have := h1.len; unfold maxLen; omega)⟩
theorem adds (xs : List Nt) (x : Nt) (hx : ntSm x) : ∃ (L : List Nt) (k : Int), Hid (∀ A c T ct W, NkL A c xs W → RdT W W.heap.size T ct x.terms → Calls Tryz.prog 6 #[.slice A xs.length c, ntV x.name x.kind x.num x.den T x.terms.length ct x.sp x.sd x.sq] W (RetK W L k)) ∧
    Hid (∀ A c T ct W, NkL A c xs W → RdT W W.heap.size T ct x.terms → Calls Tryz.prog 7 #[.slice A xs.length c, ntV x.name x.kind x.num x.den T x.terms.length ct x.sp x.sd x.sq] W (RetK W L k)) ∧
    Hid (k = 0 → ∀ A c W, NkS A L W → Calls Tryz.prog 9 #[.slice A L.length c, .string x.name] W (RetK W xs 0) ∧ Calls Tryz.prog 11 #[.slice A L.length c, .string x.name] W (RetZ W x 0)) := by
  have hxf := sm_fits hx
  have hxl : x.terms.length ≤ 1048576 := by have := hx.2; omega
  refine ⟨anX xs x, anC xs x, fun A c T ct W h1 h2 => ?_, fun A c T ct W h1 h2 => ?_, fun hk A c W h1 => ?_⟩
  · obtain ⟨l1, l2, l3⟩ := h1.lst
    exact (iAddNote_any A c xs x T ct W h1.rd l1 l2 l3 h2 hxf hxl).mono fun e w' h => h.k (anX_ok xs x)
  · obtain ⟨l1, l2, l3⟩ := h1.lst
    exact (sAddNote_any A c xs x T ct W h1.rd l1 l2 l3 h2 hxf hxl h1.cap.1 h1.cap.2 h1.pos).mono fun e w' h => h.k (anX_ok xs x)
  · obtain ⟨a1, a2, a3, a4, _⟩ := an_laws hk
    have hok := anX_ok xs x
    have l3 : ∀ y ∈ anX xs x, y.terms.length ≤ 1048576 := fun y hy => by
      have := hx.2
      unfold anX at hy
      rw [if_pos hk, List.append_assoc] at hy
      have hts : ∀ z ∈ xs, z.terms.length ≤ 1048576 := fun z hz => by
        have h4 := (valid_all a4).2 z hz
        rcases (ntOk_bds h4).2 with h3 | h3 | h3
        · rw [(ntOk_1 h4 h3).1.1]; simp
        · have := (ntOk_2 h4 h3).2.1; omega
        · rw [(ntOk_3 h4 h3).1.2.2]; simp
      rcases List.mem_append.1 hy with hy | hy
      · exact hts y (List.mem_of_mem_take hy)
      · rcases List.mem_append.1 hy with hy | hy
        · simp only [List.mem_cons, List.not_mem_nil, or_false] at hy
          subst hy
          omega
        · exact hts y (List.mem_of_mem_drop hy)
    refine ⟨?_, ?_⟩
    · have h := iDropNote_any A c (anX xs x) x.name W h1.rd h1.fits (by have := h1.len; omega) l3
      rw [a2, a1] at h
      exact h.mono fun e w' h => h.k (valid_ok a4)
    · have h := (iNoteNamed_any A c (anX xs x) x.name W h1.rd h1.fits (by have := h1.len; omega) l3).mono fun e w' h => h.z
      have hz : nnZ (anX xs x) x.name = x := by
        unfold nnZ
        rw [if_pos a1, List.getD_eq_getElem?_getD, a3]; rfl
      rwa [hz, a1] at h
theorem drops (ys : List Nt) (s : ByteArray) (hy : ∀ y ∈ ys, ntSm y) : ∃ (L : List Nt) (k : Int) (z : Nt), Hid (∀ A c W, NkL A c ys W → Calls Tryz.prog 9 #[.slice A ys.length c, .string s] W (RetK W L k)) ∧ Hid (∀ A c W, NkL A c ys W → Calls Tryz.prog 10 #[.slice A ys.length c, .string s] W (RetK W L k)) ∧
    Hid (∀ A c W, NkL A c ys W → Calls Tryz.prog 11 #[.slice A ys.length c, .string s] W (RetZ W z k)) ∧ Hid (∀ A c W, NkL A c ys W → Calls Tryz.prog 12 #[.slice A ys.length c, .string s] W (RetZ W z k)) ∧ z.fits := by
  refine ⟨dnX ys s, nnC ys s, nnZ ys s, fun A c W h1 => ?_, fun A c W h1 => ?_, fun A c W h1 => ?_, fun A c W h1 => ?_, nnZ_fits s fun y hyy => sm_fits (hy y hyy)⟩
  · obtain ⟨l1, l2, l3⟩ := h1.lst
    exact (iDropNote_any A c ys s W h1.rd l1 l2 l3).mono fun e w' h => h.k (dnX_ok s)
  · obtain ⟨l1, l2, l3⟩ := h1.lst
    exact (sDropNote_any A c ys s W h1.rd l1 l2 l3 h1.cap.1 h1.cap.2).mono fun e w' h => h.k (dnX_ok s)
  · obtain ⟨l1, l2, l3⟩ := h1.lst
    exact (iNoteNamed_any A c ys s W h1.rd l1 l2 l3).mono fun e w' h => h.z
  · obtain ⟨l1, l2, l3⟩ := h1.lst
    exact (sNoteNamed_any A c ys s W h1.rd l1 l2 l3).mono fun e w' h => h.z
theorem texts (t : List Nt) : ∃ (E : ByteArray) (R : List Nt) (ok b : Bool), Hid (∀ A c W, NkL A c t W → Vars W → Calls Tryz.prog 14 #[.slice A t.length c] W fun e w' => e = .returned (.string E) ∧ Below W.heap.size W w') ∧ Hid (∀ A c W, NkL A c t W → Calls Tryz.prog 26 #[.slice A t.length c] W fun e w' => e = .returned (.string E) ∧ Below W.heap.size W w') ∧
    Hid (∀ W, Vars W → Calls Tryz.prog 15 #[.string E] W (RetKB W R ok)) ∧ Hid (E ≠ ⟨#[]⟩ → ok = true ∧ R = t) ∧
    Hid (∀ A c W, NkL A c t W → Calls Tryz.prog 28 #[.slice A t.length c] W fun e w' => e = .returned (.bool b) ∧ Below W.heap.size W w') ∧ Hid (∀ A c W, NkL A c t W → Calls Tryz.prog 29 #[.slice A t.length c] W fun e w' => e = .returned (.bool b) ∧ Below W.heap.size W w') := by
  have hsz : (ntsB t).size ≤ 10000000 := by
    unfold ntsB
    split
    · rename_i h
      have h1 := ntsO_size (valid_all h).2 t.length
      have h2 := (valid_all h).1
      omega
    · decide
  refine ⟨ntsB t, rnX (ntsB t), rnK (ntsB t), validNt t, fun A c W h1 hV => ?_, fun A c W h1 => ?_, fun W hV => ?_, fun hE => ?_, fun A c W h1 => ?_, fun A c W h1 => ?_⟩
  · obtain ⟨l1, l2, l3⟩ := h1.lst
    exact iNotesText_any A c t W h1.rd l1 (by unfold maxLen; omega) hV.tab
  · obtain ⟨l1, l2, l3⟩ := h1.lst
    exact sNotesText_any A c t W h1.rd l1 (by unfold maxLen; omega)
  · exact (iReadNotes_any (ntsB t) W hsz hV).mono fun e w' h => h.k (rnX_ok _)
  · cases hv : validNt t
    · exact absurd (by unfold ntsB; rw [hv]; rfl) hE
    · have h := rnO_iff.2 ⟨hv, show ntsO t t.length = ntsB t by unfold ntsB; rw [if_pos hv]⟩
      exact ⟨(rn_some_ h).2, (rn_some_ h).1⟩
  · obtain ⟨l1, l2, l3⟩ := h1.lst
    exact iValidNotes_any A c t W h1.rd l1 (by unfold maxLen; omega)
  · obtain ⟨l1, l2, l3⟩ := h1.lst
    exact sValidNotes_any A c t W h1.rd l1 (by unfold maxLen; omega)
theorem reads (s : ByteArray) (hs : s.size ≤ 20000) : ∃ (R : List Nt) (ok : Bool), Hid (∀ W, Vars W → Calls Tryz.prog 15 #[.string s] W (RetKB W R ok)) ∧ Hid (∀ W, Calls Tryz.prog 17 #[.string s] W (RetKB W R ok)) :=
  ⟨rnX s, rnK s, fun W hV => (iReadNotes_any s W (by omega) hV).mono fun e w' h => h.k (rnX_ok _), fun W => (sReadNotes_any s W (by omega)).mono fun e w' h => h.k (rnX_ok _)⟩
theorem packs (p : List Nt) : ∃ (P : ByteArray) (k : Int), Hid (∀ A c W, NkL A c p W → Calls Tryz.prog 19 #[.slice A p.length c] W (RetP W P k)) ∧ Hid (∀ A c W, NkL A c p W → Calls Tryz.prog 20 #[.slice A p.length c] W (RetP W P k)) ∧
    Hid (k = 0 → ∀ W, Calls Tryz.prog 22 #[.string P] W (RetK W p 0)) := by
  refine ⟨pnS p, pnC p, fun A c W h1 => ?_, fun A c W h1 => ?_, fun hk W => ?_⟩
  · obtain ⟨l1, l2, l3⟩ := h1.lst
    exact iPackNotes_any A c p W h1.rd l1 (by unfold maxLen; omega)
  · obtain ⟨l1, l2, l3⟩ := h1.lst
    exact sPackNotes_any A c p W h1.rd l1 (by unfold maxLen; omega)
  · have hv : validNt p = true := by
      unfold pnC at hk
      split at hk
      · assumption
      · cases hk
    have hP : pnS p = endB (bookB p) := by unfold pnS; rw [if_pos hv]
    have hsz : (pnS p).size ≤ 1048576 := by
      rw [hP]
      have h3 := books_length (xs := p) fun x hx => by
        have h4 := (valid_all hv).2 x hx
        exact noteB_length (ntOk_bds h4).1 (ntOk_nu h4).1 (ntOk_nu h4).2
      have h40 := (valid_all hv).1
      unfold endB bookB
      rw [byS_size]
      simp only [List.length_append, List.length_cons, List.length_nil]
      omega
    have hu := un_good (s := pnS p) (xs := p) (fun ys hy he => endB_inj hv hy (by rw [he, hP])) hv hP.symm
    have h := iUnpack_any (pnS p) W hsz
    rw [hu.1, hu.2] at h
    exact h.mono fun e w' h => h.k (valid_ok hv)
theorem unpacks (s : ByteArray) (hs : s.size ≤ 20000) : ∃ (U : List Nt) (k : Int), Hid (∀ W, Calls Tryz.prog 22 #[.string s] W (RetK W U k)) ∧ Hid (∀ W, Calls Tryz.prog 23 #[.string s] W (RetK W U k)) :=
  ⟨unX s, unC s, fun W => (iUnpack_any s W (by omega)).mono fun e w' h => h.k (unX_ok s), fun W => (sUnpack_any s W (by omega)).mono fun e w' h => h.k (unX_ok s)⟩
end Go.Proofs.YtpnabggpdgjbmaaGreatDoor
namespace Go.Proofs.YtpnabggpdgjbmaaGreatDoor
open Go.RowKit Go.Sort Go.Lib
theorem tab_of {W : World} {r : List (String × DataW Unit)} (h : laidMet Tryz.prog (("internal/strconv.uint64pow10", Rows.laid_internal_strconv_uint64pow10) :: r) W) : Lib.TabIs Tryz.prog W "internal/strconv.uint64pow10" .u64 Lib.pow10Tab :=
  Lib.tabIs_of_head (g := 2) (by kernel_rfl) (by kernel_rfl) Tryz.underlying190 Tryz.underlying98 (by kernel_rfl) (by kernel_rfl) h
end Go.Proofs.YtpnabggpdgjbmaaGreatDoor
namespace Go
/-- A row with a further condition on memory, the world's shape handed on. -/
theorem returnsInHanded_of_change_and_shaped {H : Type} {enc : TypeId × Value → H} {a : Assume} {C : Checked} {os : Os} {f : FuncId} {fn : Func} {s : ChangeSpec} {conds : List PathCond} {apart fresh handsOn again : Bool} {X : World → Array Value → Prop}
    (hX : ∀ (w w' : World) (args : Array Value), w.heap = w'.heap → X w args → X w' args)
    (own : ownKnob C.prog.godebug = none) (started : os.Started) (noInit : C.prog.inits.idxOf? f = none) (hfn : C.prog.funcs[f]? = some fn)
    (witness : ∃ (w : World) (tape : Tape) (i : Input), w.os = os ∧ (w.forCall tape i).Shaped C.prog ∧ i.vars = [] ∧ Input.okWide C.prog (w.forCall tape i) .any w.heap.size f i ∧
      ((s.pre enc C.prog fn conds apart (w.forCall tape i).memory i.args ∧ X (w.forCall tape i).memory i.args) ∧ sizedMet enc C.prog fn (OpenSpec.ofChange s) apart (w.forCall tape i).memory i.args) ∧ a.holds C.prog (lone (Frame.enter C.prog f i.args .normal) [] (w.forCall tape i)))
    (contract : ∀ (W : World) (base : Nat) (args : Array Value) (ds gs : List (DataW H)) (before : List MemPlace),
      (∀ (j : Nat) t v, fn.params[j]? = some t → args[j]? = some v → Value.okWide C.prog W .any base t v) →
      DataW.Whole enc C.prog fn.params.toList s.vars apart W args.toList ds gs before →
      conds.all (PathCond.test C.prog ⟨fn.params.toList, ds, s.plain.varTypes C.prog, gs⟩) = true →
      (DataW.weightsEach C.prog (fn.params.toList ++ s.plain.varTypes C.prog) (ds ++ gs)).all (· ≤ reachBytes) = true → X W args → W.ShapedOpen C.prog →
      a.holds C.prog (lone (Frame.enter C.prog f args .normal) [] W) →
      Calls C.prog f args W fun e W' => ∃ v, e = .returned v ∧ s.post enc C.prog fn apart fresh handsOn again W args v W') :
    ReturnsInHanded a C os f .any (fun w args => (s.pre enc C.prog fn conds apart w args ∧ X w args) ∧ sizedMet enc C.prog fn (OpenSpec.ofChange s) apart w args) (s.post enc C.prog fn apart fresh handsOn again) := by
  refine returnsInHanded_of_calls own started noInit witness ?_
  intro w tape i _ hsh _ hok hpre hholds
  obtain ⟨_, _, _, fn', hfn', _, _, _, _, hval⟩ := hok
  obtain rfl : fn' = fn := Option.some.inj (hfn'.symm.trans hfn)
  obtain ⟨⟨⟨ds, gs, before, hw, hc⟩, hx⟩, hz⟩ := hpre
  refine (contract (w.forCall tape i) w.heap.size i.args ds gs before hval (DataW.Whole.of_heap (w' := w.forCall tape i) (by rfl) hw) hc (hz.weights hw) (hX _ _ _ (by rfl) hx) hsh hholds).mono fun e W' ⟨v, he, hp⟩ => ?_
  subst he
  exact ChangeSpec.post_blind hp
end Go
namespace Go.Proofs.YtpnabggpdgjbmaaGreatDoor
open Go.RowKit Go.Sort Go.Lib
theorem len_of {W : World} (h : W.ShapedOpen Tryz.prog) : ∃ m, W.cell? ⟨0, 0, none⟩ = some (.int .i64 m) :=
  cell_of_shapedOpen_int (t := 3) (zero := #[.int .i64 0]) h (of_decide_eq_true (by kernel_rfl)) (by kernel_rfl) rfl (by kernel_rfl) (by kernel_rfl) Tryz.underlying3
theorem star_err : "*" ++ "errors.errorString" = "*errors.errorString" := by decide
theorem row_err (u : TypeId) (h : Tryz.prog.typeName? 3 u = some "*errors.errorString") : u = 212 :=
  typeName_ptr_named (nm := "errors.errorString") (by rw [star_err]; kernel_rfl) (by kernel_rfl) (by decide) u (by rw [star_err]; exact h)
theorem syn_of {W : World} {text : List UInt8} {r : List (String × DataW Unit)} (h : laidMet Tryz.prog (("strconv.ErrSyntax", .iface "*errors.errorString" (.ptr (.agg [.lit (.string text)]))) :: r) W) : ∃ t p, W.cell? ⟨5, 0, none⟩ = some (.iface t p) := by
  obtain ⟨a, s, hv, _⟩ := laid_sentinel (g := 5) (ti := 153) h (by kernel_rfl) (by kernel_rfl) Tryz.underlying153 row_err Tryz.underlying212 Tryz.underlying214 rfl rfl Tryz.underlying9 (by kernel_rfl) (by kernel_rfl)
  exact ⟨_, _, by have h0 := World.var?_cell (g := 5) (by kernel_rfl) hv 0; simpa using h0⟩
theorem rng_of {W : World} {text : List UInt8} {r : List (String × DataW Unit)} (h : laidMet Tryz.prog (("strconv.ErrRange", .iface "*errors.errorString" (.ptr (.agg [.lit (.string text)]))) :: r) W) : ∃ t p, W.cell? ⟨6, 0, none⟩ = some (.iface t p) := by
  obtain ⟨a, s, hv, _⟩ := laid_sentinel (g := 6) (ti := 153) h (by kernel_rfl) (by kernel_rfl) Tryz.underlying153 row_err Tryz.underlying212 Tryz.underlying214 rfl rfl Tryz.underlying9 (by kernel_rfl) (by kernel_rfl)
  exact ⟨_, _, by have h0 := World.var?_cell (g := 6) (by kernel_rfl) hv 0; simpa using h0⟩
end Go.Proofs.YtpnabggpdgjbmaaGreatDoor
