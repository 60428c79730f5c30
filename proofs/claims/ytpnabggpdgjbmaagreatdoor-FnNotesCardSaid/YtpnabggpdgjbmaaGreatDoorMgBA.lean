/- A slice of notes with one more: the reference's walk. No condition but those that each theorem names. -/
import Derived.Test.YtpnabggpdgjbmaaGreatDoorMgAY
namespace Go.Proofs.YtpnabggpdgjbmaaGreatDoor
open Go.RowKit Go.Sort
theorem anK_stop {xs : List Nt} {s : ByteArray} {k : Nat} {y : Nt} (hy : xs[k]? = some y) (h : ltB s y.name = false) : anK xs s (k + 1) = k + 1 := by
  rw [anK, getD_nt hy, h]; simp
theorem anK_go {xs : List Nt} {s : ByteArray} {k : Nat} {y : Nt} (hy : xs[k]? = some y) (h : ltB s y.name = true) : anK xs s (k + 1) = anK xs s k := by
  rw [anK, getD_nt hy, h]; simp
set_option maxRecDepth 100000 in
set_option maxHeartbeats 2000000 in
theorem sAddNote_any (A : Option Addr) (c : Nat) (xs : List Nt) (x : Nt) (T : Option Addr) (ct : Nat) (w : World) (hr : RdNt w w.heap.size A xs) (hf : ∀ x ∈ xs, x.fits) (hl : xs.length ≤ 1048576) (ht : ∀ x ∈ xs, x.terms.length ≤ 1048576) (hx : RdT w w.heap.size T ct x.terms) (hxf : x.fits) (hxl : x.terms.length ≤ 1048576) (hc : xs.length ≤ c) (hcm : c ≤ maxLen) (hA : ∃ b off, A = some ⟨b, off, none⟩) :
    Calls Tryz.prog 7 #[.slice A xs.length c, ntV x.name x.kind x.num x.den T x.terms.length ct x.sp x.sd x.sq] w (RetNtL w (anX xs x) (anC xs x)) := by
  obtain ⟨ti, hi, hz0, hz1, hz2⟩ := info_parts infoNtR
  have HI := Lib.hid hi
  have HV : Hid (∀ W : World, Below w.heap.size w W → Calls Tryz.prog 39 #[.slice A xs.length c] W fun e w' => e = .returned (.bool (validNt xs)) ∧ Below W.heap.size W w') := fun W hb => l27Ok_any A c xs W (hr.next hb) hf (by unfold maxLen; omega)
  have HN : Hid (∀ W : World, Below w.heap.size w W → NtAt W w.heap.size 0 x T ct → Calls Tryz.prog 40 #[.pointer (some ⟨w.heap.size, 0, none⟩)] W fun e w' => e = .returned (.bool (ntOk x)) ∧ Below W.heap.size W w') := fun W hb ha => l27One_any x w.heap.size 0 T ct W (hx.next hb) hxf ha
  have HC : Hid (anC xs x = if (validNt xs && ntOk x) = true then (if fndN x.name xs 0 < 0 then (if xs.length = 40 then 5 else 0) else 4) else 1) := rfl
  have HX : Hid (anX xs x = if anC xs x = 0 then xs.take (anK xs x.name xs.length) ++ [x] ++ xs.drop (anK xs x.name xs.length) else []) := rfl
  have X := Lib.hid (BoxV.new w #[.string x.name, .int .i64 x.kind, .int .i64 x.num, .int .i64 x.den, .slice T x.terms.length ct, .int .i64 x.sp, .int .i64 x.sd, .int .i64 x.sq] 31)
  have E0 := Lib.hid (ext1 w (.cells #[.string x.name, .int .i64 x.kind, .int .i64 x.num, .int .i64 x.den, .slice T x.terms.length ct, .int .i64 x.sp, .int .i64 x.sd, .int .i64 x.sq] 31))
  unfold ntV at *
  clear hi
  cases hv : validNt xs
  · rw [hv] at HV HC
    have h1 : anC xs x = 1 := HC.out
    have h2 : anX xs x = [] := by rw [HX.out, if_neg (by omega)]
    rw [h1, h2]
    clear hv hr hf ht HC h1 HX h2 hx hxf HN X hc hcm
    go_enter Tryz.func7, Tryz.ntmps7
    go_wp2_with fail
    refine (HV.out _ E0.out).mono ?_
    rintro e w1 ⟨rfl, hb1⟩
    go_wp2
    go_ret2
    exact RetNtL.nil_ 1 (ext_trans E0.out hb1)
  · cases ho : ntOk x
    · rw [hv] at HV HC
      rw [ho] at HN HC
      have h1 : anC xs x = 1 := HC.out
      have h2 : anX xs x = [] := by rw [HX.out, if_neg (by omega)]
      rw [h1, h2]
      clear hv ho hr hf ht HC h1 HX h2 hx hxf hc hcm
      go_enter Tryz.func7, Tryz.ntmps7
      go_wp2_with fail
      refine (HV.out _ E0.out).mono ?_
      rintro e w1 ⟨rfl, hb1⟩
      have X := Lib.hid (X.out.next hb1)
      have E := Lib.hid (ext_trans E0.out hb1)
      clear hb1 E0
      go_wp2_with fail
      refine (HN.out _ E.out ⟨X.out.at 0 _ rfl, X.out.at 1 _ rfl, X.out.at 2 _ rfl, X.out.at 3 _ rfl, X.out.at 4 _ rfl, X.out.at 5 _ rfl, X.out.at 6 _ rfl, X.out.at 7 _ rfl⟩).mono ?_
      rintro e w2 ⟨rfl, hb2⟩
      go_wp2
      go_ret2
      exact RetNtL.nil_ 1 (ext_trans E.out hb2)
    · have HP : Hid (∀ W : World, Below w.heap.size w W → Calls Tryz.prog 41 #[.slice A xs.length c, .string x.name] W fun e w' => e = .returned (.int .i64 (fndN x.name xs 0)) ∧ Below W.heap.size W w') := fun W hb => l27Find_any A c xs x.name W (hr.next hb) (by unfold maxLen; omega)
      have hle := validNt_len hv
      obtain ⟨rs, hmap, hrd⟩ := hr.rows
      have hlen : rs.length = xs.length := by rw [← hmap, List.length_map]
      have hlen1 : rs.length ≤ xs.length := by omega
      have hlen2 : xs.length ≤ rs.length := by omega
      have HTL : Hid (∀ q ∈ rs, q.x.terms.length ≤ 1048576) := fun q hq => ht _ (by rw [← hmap]; exact List.mem_map_of_mem hq)
      have HCP : Hid (∀ (B : Option Addr) (d : Nat) (qs : List NtR) (W : World), (∀ q ∈ qs, q.x.terms.length ≤ 1048576) → qs.length ≤ 1000 → RdR W W.heap.size B qs → Calls Tryz.prog 42 #[.slice B qs.length d] W (RetNts W (qs.map NtR.x))) := fun B d qs W hq1 hq2 h => l27Copy_any B d qs W h (by omega) hq1
      unfold RetNts at HCP
      have HMP := Lib.hid hmap
      have HRD := Lib.hid hrd
      have HXT := Lib.hid hx
      have hc' : c ≤ 9223372036854775807 := by unfold maxLen at hcm; omega
      rw [hv] at HV HC
      rw [ho] at HN HC
      clear hv ho hr hf ht hrd hmap hlen hx hxf hcm
      go_enter Tryz.func7, Tryz.ntmps7
      go_wp2_with fail
      refine (HV.out _ E0.out).mono ?_
      rintro e w1 ⟨rfl, hb1⟩
      have X := Lib.hid (X.out.next hb1)
      have E := Lib.hid (ext_trans E0.out hb1)
      clear hb1 E0
      go_wp2_with fail
      refine (HN.out _ E.out ⟨X.out.at 0 _ rfl, X.out.at 1 _ rfl, X.out.at 2 _ rfl, X.out.at 3 _ rfl, X.out.at 4 _ rfl, X.out.at 5 _ rfl, X.out.at 6 _ rfl, X.out.at 7 _ rfl⟩).mono ?_
      rintro e w2 ⟨rfl, hb2⟩
      have X := Lib.hid (X.out.next hb2)
      have E := Lib.hid (ext_trans E.out hb2)
      clear hb2
      have y0 := X.out.at 0 _ rfl
      have y1 := X.out.at 1 _ rfl
      have y2 := X.out.at 2 _ rfl
      have y3 := X.out.at 3 _ rfl
      have y4 := X.out.at 4 _ rfl
      have y5 := X.out.at 5 _ rfl
      have y6 := X.out.at 6 _ rfl
      have y7 := X.out.at 7 _ rfl
      go_wp2_with fail
      refine (HP.out _ E.out).mono ?_
      rintro e w3 ⟨rfl, hb3⟩
      have X := Lib.hid (X.out.next hb3)
      have E := Lib.hid (ext_trans E.out hb3)
      clear y0 y1 y2 y3 y4 y5 y6 y7
      clear hb3 HV HN HP
      by_cases hneg : fndN x.name xs 0 < 0
      · have hge : ¬ (0 ≤ fndN x.name xs 0) := by omega
        by_cases h40 : xs.length = 40
        · have h1 : anC xs x = 5 := by rw [HC.out, if_pos (show (true && true) = true from rfl), if_pos hneg, if_pos h40]
          have h2 : anX xs x = [] := by rw [HX.out, if_neg (by omega)]
          have H1 := Lib.hid h1
          have H2 := Lib.hid h2
          have h40' : (40 : Int) ≤ (xs.length : Int) := by omega
          clear h1 h2 h40 HC HX
          generalize fndN x.name xs 0 = R at *
          go_wp2
          go_ret2
          rw [H1.out, H2.out]
          exact RetNtL.nil_ 5 E.out
        · have h1 : anC xs x = 0 := by rw [HC.out, if_pos (show (true && true) = true from rfl), if_pos hneg, if_neg h40]
          have h2 : anX xs x = xs.take (anK xs x.name xs.length) ++ [x] ++ xs.drop (anK xs x.name xs.length) := by rw [HX.out, if_pos h1]
          have H1 := Lib.hid h1
          have H2 := Lib.hid h2
          have h40' : ¬ ((40 : Int) ≤ (xs.length : Int)) := by omega
          clear h1 h2 h40 HC HX
          generalize fndN x.name xs 0 = R at *
          go_wp2_with fail
          go_loopw [6] (fun t wr => ∃ k : Nat, k ≤ xs.length ∧ t = .int .i64 k ∧ Hid (anK xs x.name xs.length = anK xs x.name k) ∧ ∃ nn, wr = w3.drewN nn) (fun t _ => (intOf t).toNat)
          case atStart => exact ⟨xs.length, by omega, rfl, rfl, 0, rfl⟩
          case round =>
            obtain ⟨k, hk, rfl, HK, nn, rfl⟩ := hrel
            rcases Nat.eq_zero_or_pos k with h0 | h0
            · have HKK : Hid (anK xs x.name xs.length = k) := by unfold Hid; rw [HK.out, h0]; rfl
              have t1 : decide (0 < k) = false := by simp [h0]
              have t2 : decide ((0 : Int) < (k : Int)) = false := by simp; omega
              clear h0
              go_wp2_with fail
              go_quiet (fail)
              obtain ⟨b, off, rfl⟩ := hA
              have H2 := Lib.hid (show anX xs x = xs.take k ++ [x] ++ xs.drop k by rw [H2.out, HKK.out])
              generalize hW4 : (w3.drewN nn).drewN _ = W4
              have hb4 : Below w3.heap.size w3 W4 := by rw [← hW4]; exact ⟨rfl, rfl, rfl, Nat.le_refl _, fun _ _ => rfl⟩
              have X := Lib.hid (X.out.next hb4)
              have E := Lib.hid (ext_trans E.out hb4)
              clear hb4 hW4 HK HKK
              have HCR : Hid (∀ j r, rs[j]? = some r → RowAt W4 b (off + j * 8) r.cells ∧ RdT W4 W4.heap.size r.T r.c r.x.terms ∧ b < W4.heap.size) := fun j r hr' => by
                obtain ⟨b', off', e', hb', hc'⟩ := (HRD.out.next E.out) (by have := (List.getElem?_eq_some_iff.1 hr').1; omega)
                injection e' with e'
                injection e' with e1 e2
                subst e1 e2
                exact ⟨(hc' j r hr').1, (hc' j r hr').2, hb'⟩
              have HNX : Hid (∀ (W : World) (p q : Nat), Below W4.heap.size W4 W → ∀ i u, (flatR ((rs.drop p).take q))[i]? = some u → W.cell? ((⟨b, off + p * 8, none⟩ : Addr).add i) = some u) := fun W p q hW i u hu => by
                have h0 : 0 < rs.length := by
                  rcases Nat.eq_zero_or_pos rs.length with h | h
                  · rw [List.eq_nil_of_length_eq_zero h] at hu; simp [flatR] at hu
                  · exact h
                have hbl := (HCR.out 0 _ (List.getElem?_eq_getElem h0)).2.2
                rw [← RdR.news (fun j r hr' => ⟨(HCR.out j r hr').1, (HCR.out j r hr').2.1⟩) p q i u hu]
                exact hW.cell (p := (⟨b, off + p * 8, none⟩ : Addr).add i) (by rw [Addr.add_lit]; exact hbl)
              have HO0 := Lib.hid (OutR8.start W4)
              have hown0 := HO0.out.row
              have hkc : k ≤ c := by omega
              have i0 : (0 : Int) ≤ (k : Int) := by omega
              have HLK : Hid ((flatR ((rs.drop 0).take k)).length = k * 8) := by unfold Hid; rw [flatR_length, List.length_take, List.drop_zero]; omega
              have HLK2 : Hid (((rs.drop 0).take k).length = k) := by unfold Hid; rw [List.length_take, List.drop_zero]; omega
              have HNW : Hid (∀ j u, (flatR ((rs.drop 0).take k))[j]? = some u → (W4.alloc (.cells #[] 31)).cell? ((⟨b, off, none⟩ : Addr).add j) = some u) := fun j u hu => by
                have h := HNX.out _ 0 k (ext1 W4 (.cells #[] 31)) j u hu
                rwa [Nat.zero_mul, Nat.add_zero] at h
              go_wp2_with (at_builtin; go_must (refine wpList_append_own _ rfl _ _ 24 rfl W4.heap.size 31 ti (ntV ByteArray.empty 0 0 0 none 0 0 0 0 0) 8 88 Tryz.underlying24 HI.out hz0 hz1 hz2 rfl (by decide) _ _ _ rfl hown0 ⟨b, off, none⟩ k c (flatR ((rs.drop 0).take k)) rfl HLK.out HNW.out (flatR_one8 _) ?pa3 ?pa4 ?pa5 ?_))
              case pa3 => unfold maxLen; simp; omega
              case pa4 => simp; omega
              case pa5 => simp
              intro v5 w5 hown5 hgrow _
              have HO1 : Hid (OutR8 W4 W4.heap.size ([] ++ (rs.drop 0).take k) v5 w5) := OutR8.push HO0.out HLK2.out (by simpa using hown5) hgrow
              rw [List.nil_append, List.drop_zero] at HO1
              have X := Lib.hid (X.out.next HO1.out.bel)
              clear hown5 hgrow hown0 HO0 HNW HLK HLK2
              obtain ⟨A5, c5, rfl⟩ := own_slice HO1.out.row
              have hown1 := (HO1.out.next (ext1 w5 (.cells #[.string x.name, .int .i64 x.kind, .int .i64 x.num, .int .i64 x.den, .slice T x.terms.length ct, .int .i64 x.sp, .int .i64 x.sd, .int .i64 x.sq] 31))).row
              have HO1' := Lib.hid (HO1.out.next (ext1 w5 (.cells #[.string x.name, .int .i64 x.kind, .int .i64 x.num, .int .i64 x.den, .slice T x.terms.length ct, .int .i64 x.sp, .int .i64 x.sd, .int .i64 x.sq] 31)))
              have hl1 : (rs.take k).length = k := by rw [List.length_take]; omega
              have hhi := HO1'.out.hi
              rw [hl1] at hown1 ⊢
              have HL1 := Lib.hid hl1
              clear hl1
              have y0 := X.out.at 0 _ rfl
              have y1 := X.out.at 1 _ rfl
              have y2 := X.out.at 2 _ rfl
              have y3 := X.out.at 3 _ rfl
              have y4 := X.out.at 4 _ rfl
              have y5 := X.out.at 5 _ rfl
              have y6 := X.out.at 6 _ rfl
              have y7 := X.out.at 7 _ rfl
              go_wp2_with (at_builtin; go_must (refine wpList_append_own _ rfl _ _ 24 rfl W4.heap.size 31 ti (ntV ByteArray.empty 0 0 0 none 0 0 0 0 0) 8 88 Tryz.underlying24 HI.out hz0 hz1 hz2 rfl (by decide) _ _ _ rfl hown1 ⟨w5.heap.size, 0, none⟩ 1 1 (ntC x T ct) rfl rfl (news_rowN _ _ _ rfl) ?pb2 ?pb3 ?pb4 ?pb5 ?_))
              case pb2 => simp [ntC, Value.oneCell']
              case pb3 => unfold maxLen; omega
              case pb4 => omega
              case pb5 => exact hhi
              intro v6 w6 hown6 hgrow _
              have HO2 : Hid (OutR8 W4 W4.heap.size (rs.take k ++ [⟨x, T, ct⟩]) v6 w6) := OutR8.push (m := 1) HO1'.out rfl (by rw [HL1.out, flatR_one]; exact hown6) (by rw [HL1.out]; exact hgrow)
              clear hown6 hgrow hown1 HO1 HO1' X hhi
              clear y0 y1 y2 y3 y4 y5 y6 y7
              obtain ⟨A6, c6, rfl⟩ := own_slice HO2.out.row
              have hown2 := HO2.out.row
              have hhi2 := HO2.out.hi
              have hl2 : (rs.take k ++ [(⟨x, T, ct⟩ : NtR)]).length = k + 1 := by rw [List.length_append, HL1.out]; rfl
              rw [hl2] at hown2 ⊢
              have HL2 := Lib.hid hl2
              have HTR : Hid (∀ r ∈ rs.take k ++ [⟨x, T, ct⟩] ++ rs.drop k, RdT W4 W4.heap.size r.T r.c r.x.terms) := fun r hr' => by
                have hin : ∀ q ∈ rs, RdT W4 W4.heap.size q.T q.c q.x.terms := fun q hq => by
                  obtain ⟨j, hj, rfl⟩ := List.getElem_of_mem hq
                  exact (HCR.out j _ (List.getElem?_eq_getElem hj)).2.1
                rcases List.mem_append.1 hr' with hq | hq
                · rcases List.mem_append.1 hq with hq | hq
                  · exact hin r (List.mem_of_mem_take hq)
                  · rw [List.mem_singleton.1 hq]; exact HXT.out.next E.out
                · exact hin r (List.mem_of_mem_drop hq)
              clear hl2
              by_cases hck : c = k
              · subst hck
                go_wp2_with (at_builtin; go_must (refine wpList_append_own _ rfl _ _ 24 rfl W4.heap.size 31 ti (ntV ByteArray.empty 0 0 0 none 0 0 0 0 0) 8 88 Tryz.underlying24 HI.out hz0 hz1 hz2 rfl (by decide) _ _ _ rfl hown2 ⟨b, off, none⟩ 0 0 [] rfl rfl (fun _ _ h => by simp at h) (fun _ h => by simp at h) ?pd3 ?pd4 ?pd5 ?_))
                case pd3 => unfold maxLen; omega
                case pd4 => omega
                case pd5 => exact hhi2
                intro v8 w8 hown8 hgrow _
                have HO3 : Hid (OutR8 W4 W4.heap.size (rs.take c ++ [⟨x, T, ct⟩] ++ []) v8 w8) := OutR8.push (m := 0) HO2.out rfl (by rw [HL2.out]; simpa [flatR] using hown8) (by rw [HL2.out]; exact hgrow)
                rw [List.append_nil, ← show rs.take c ++ [(⟨x, T, ct⟩ : NtR)] ++ rs.drop c = rs.take c ++ [(⟨x, T, ct⟩ : NtR)] by rw [List.drop_eq_nil_of_le (show rs.length ≤ c by omega), List.append_nil]] at HO3
                clear hown8 hgrow hown2 HO2
                have hel : (rs.take c ++ [(⟨x, T, ct⟩ : NtR)] ++ rs.drop c).length = xs.length + 1 := by simp only [List.length_append, List.length_take, List.length_drop, List.length_cons, List.length_nil]; omega
                obtain ⟨A6, c6, rfl, hrd6⟩ := HO3.out.rd (fun r hr' => HTR.out r hr')
                have HC6 := Lib.hid (HCP.out A6 c6 (rs.take c ++ [⟨x, T, ct⟩] ++ rs.drop c) _ (by
                  intro q hq
                  rcases List.mem_append.1 hq with hq | hq
                  · rcases List.mem_append.1 hq with hq | hq
                    · exact HTL.out q (List.mem_of_mem_take hq)
                    · rw [List.mem_singleton.1 hq]; exact hxl
                  · exact HTL.out q (List.mem_of_mem_drop hq)) (by omega) hrd6)
                have HB6 := Lib.hid (ext_trans E.out HO3.out.bel)
                clear hel hrd6 HCP HO3
                generalize (rs.take c ++ [(⟨x, T, ct⟩ : NtR)] ++ rs.drop c).length = ln at *
                go_wp2_with fail
                refine HC6.out.mono ?_
                rintro e w7 ⟨qs, own, v7, rfl, hq, hO⟩
                have HO7 := Lib.hid hO
                have HQ7 := Lib.hid hq
                clear hq hO
                go_wp2
                go_ret2
                rw [H1.out, H2.out]
                exact OutNt.retL HO7.out HB6.out 0 (by rw [HQ7.out, List.map_append, List.map_append, List.map_take, List.map_drop, HMP.out]; rfl)
              · go_wp2_with (at_builtin; go_must (refine wpList_append_own _ rfl _ _ 24 rfl W4.heap.size 31 ti (ntV ByteArray.empty 0 0 0 none 0 0 0 0 0) 8 88 Tryz.underlying24 HI.out hz0 hz1 hz2 rfl (by decide) _ _ _ rfl hown2 ⟨b, off + k * 8, none⟩ (xs.length - k) (c - k) (flatR ((rs.drop k).take (xs.length - k))) rfl ?pe1 ?pe2 (flatR_one8 _) ?pe3 ?pe4 ?pe5 ?_))
                case pe1 => rw [flatR_length, List.length_take, List.length_drop]; omega
                case pe2 => exact HNX.out _ k _ HO2.out.bel
                case pe3 => unfold maxLen; omega
                case pe4 => omega
                case pe5 => exact hhi2
                intro v8 w8 hown8 hgrow _
                have HO3 : Hid (OutR8 W4 W4.heap.size (rs.take k ++ [⟨x, T, ct⟩] ++ (rs.drop k).take (xs.length - k)) v8 w8) := OutR8.push (m := xs.length - k) HO2.out (by rw [List.length_take, List.length_drop]; omega) (by rw [HL2.out]; exact hown8) (by rw [HL2.out]; exact hgrow)
                rw [List.take_of_length_le (l := rs.drop k) (by rw [List.length_drop]; omega)] at HO3
                clear hown8 hgrow hown2 HO2
                have hel : (rs.take k ++ [(⟨x, T, ct⟩ : NtR)] ++ rs.drop k).length = xs.length + 1 := by simp only [List.length_append, List.length_take, List.length_drop, List.length_cons, List.length_nil]; omega
                obtain ⟨A6, c6, rfl, hrd6⟩ := HO3.out.rd (fun r hr' => HTR.out r hr')
                have HC6 := Lib.hid (HCP.out A6 c6 (rs.take k ++ [⟨x, T, ct⟩] ++ rs.drop k) _ (by
                  intro q hq
                  rcases List.mem_append.1 hq with hq | hq
                  · rcases List.mem_append.1 hq with hq | hq
                    · exact HTL.out q (List.mem_of_mem_take hq)
                    · rw [List.mem_singleton.1 hq]; exact hxl
                  · exact HTL.out q (List.mem_of_mem_drop hq)) (by omega) hrd6)
                have HB6 := Lib.hid (ext_trans E.out HO3.out.bel)
                clear hel hrd6 HCP HO3
                generalize (rs.take k ++ [(⟨x, T, ct⟩ : NtR)] ++ rs.drop k).length = ln at *
                go_wp2_with fail
                refine HC6.out.mono ?_
                rintro e w7 ⟨qs, own, v7, rfl, hq, hO⟩
                have HO7 := Lib.hid hO
                have HQ7 := Lib.hid hq
                clear hq hO
                go_wp2
                go_ret2
                rw [H1.out, H2.out]
                exact OutNt.retL HO7.out HB6.out 0 (by rw [HQ7.out, List.map_append, List.map_append, List.map_take, List.map_drop, HMP.out]; rfl)
            · have hbe : Below w.heap.size w (w3.drewN nn) := E.out.trans ⟨rfl, rfl, rfl, Nat.le_refl _, fun _ _ => rfl⟩
              obtain ⟨b, off, rfl, hb, hcR⟩ := (HRD.out.next hbe) (by omega)
              obtain ⟨r, hrk⟩ : ∃ r, rs[k - 1]? = some r := ⟨_, List.getElem?_eq_getElem (by omega)⟩
              have hy : xs[k - 1]? = some r.x := by rw [← HMP.out, List.getElem?_map, hrk]; rfl
              have c0 : w3.cell? ⟨b, off + (k - 1) * 8, none⟩ = some (.string r.x.name) := by
                have h := (hcR (k - 1) r hrk).1 0 _ rfl
                rwa [Nat.add_zero] at h
              have HY := Lib.hid hy
              have y0 := X.out.at 0 _ rfl
              obtain ⟨kk, hkk⟩ : ∃ kk, k = kk + 1 := ⟨k - 1, by omega⟩
              subst hkk
              simp only [Nat.add_sub_cancel] at c0 HY
              have i1 : (0 : Int) ≤ ((kk + 1 : Nat) : Int) - 1 := by omega
              have i2 : ((kk + 1 : Nat) : Int) - 1 < (xs.length : Int) := by omega
              have i3 : (kk : Int) < (xs.length : Int) := by omega
              have i4 : (0 : Int) ≤ (kk : Int) := by omega
              have t1 : decide (0 < kk + 1) = true := by simp
              have t2 : decide ((0 : Int) < (kk : Int) + 1) = true := decide_eq_true (by omega)
              have v1 : IntKind.i64.wrap ((kk : Int) + 1 - 1) = (kk : Int) := by rw [show (kk : Int) + 1 - 1 = kk by omega]; exact IntWalk.i64_in _ (by omega)
              have v2 : IntKind.i64.wrap (kk : Int) = (kk : Int) := IntWalk.i64_in _ (by omega)
              clear hcR hrk hy hbe h0
              have htot := bl_total r.x.name.toList x.name.toList
              cases hlb : ltB x.name r.x.name
              · have HKK : Hid (anK xs x.name xs.length = kk + 1) := by unfold Hid; rw [HK.out]; exact anK_stop HY.out hlb
                unfold ltB at hlb
                rw [hlb] at htot
                clear hlb
                cases hl1 : Op.bytesLess r.x.name.toList x.name.toList
                · have hl2 : (r.x.name.toList == x.name.toList) = true := by rw [hl1, Bool.false_or] at htot; exact htot
                  clear htot
                  go_wp2_with fail
                  go_quiet (fail)
                  generalize hkq : kk + 1 = k at *
                  clear hkq y0 c0 HY i1 i2 i3 i4 t1 t2 v1 v2 hl1 hl2 hb hA
                  have H2 := Lib.hid (show anX xs x = xs.take k ++ [x] ++ xs.drop k by rw [H2.out, HKK.out])
                  generalize hW4 : (w3.drewN nn).drewN _ = W4
                  have hb4 : Below w3.heap.size w3 W4 := by rw [← hW4]; exact ⟨rfl, rfl, rfl, Nat.le_refl _, fun _ _ => rfl⟩
                  have X := Lib.hid (X.out.next hb4)
                  have E := Lib.hid (ext_trans E.out hb4)
                  clear hb4 hW4 HK HKK
                  have HCR : Hid (∀ j r, rs[j]? = some r → RowAt W4 b (off + j * 8) r.cells ∧ RdT W4 W4.heap.size r.T r.c r.x.terms ∧ b < W4.heap.size) := fun j r hr' => by
                    obtain ⟨b', off', e', hb', hc'⟩ := (HRD.out.next E.out) (by have := (List.getElem?_eq_some_iff.1 hr').1; omega)
                    injection e' with e'
                    injection e' with e1 e2
                    subst e1 e2
                    exact ⟨(hc' j r hr').1, (hc' j r hr').2, hb'⟩
                  have HNX : Hid (∀ (W : World) (p q : Nat), Below W4.heap.size W4 W → ∀ i u, (flatR ((rs.drop p).take q))[i]? = some u → W.cell? ((⟨b, off + p * 8, none⟩ : Addr).add i) = some u) := fun W p q hW i u hu => by
                    have h0 : 0 < rs.length := by
                      rcases Nat.eq_zero_or_pos rs.length with h | h
                      · rw [List.eq_nil_of_length_eq_zero h] at hu; simp [flatR] at hu
                      · exact h
                    have hbl := (HCR.out 0 _ (List.getElem?_eq_getElem h0)).2.2
                    rw [← RdR.news (fun j r hr' => ⟨(HCR.out j r hr').1, (HCR.out j r hr').2.1⟩) p q i u hu]
                    exact hW.cell (p := (⟨b, off + p * 8, none⟩ : Addr).add i) (by rw [Addr.add_lit]; exact hbl)
                  have HO0 := Lib.hid (OutR8.start W4)
                  have hown0 := HO0.out.row
                  have hkc : k ≤ c := by omega
                  have i0 : (0 : Int) ≤ (k : Int) := by omega
                  have HLK : Hid ((flatR ((rs.drop 0).take k)).length = k * 8) := by unfold Hid; rw [flatR_length, List.length_take, List.drop_zero]; omega
                  have HLK2 : Hid (((rs.drop 0).take k).length = k) := by unfold Hid; rw [List.length_take, List.drop_zero]; omega
                  have HNW : Hid (∀ j u, (flatR ((rs.drop 0).take k))[j]? = some u → (W4.alloc (.cells #[] 31)).cell? ((⟨b, off, none⟩ : Addr).add j) = some u) := fun j u hu => by
                    have h := HNX.out _ 0 k (ext1 W4 (.cells #[] 31)) j u hu
                    rwa [Nat.zero_mul, Nat.add_zero] at h
                  go_wp2_with (at_builtin; go_must (refine wpList_append_own _ rfl _ _ 24 rfl W4.heap.size 31 ti (ntV ByteArray.empty 0 0 0 none 0 0 0 0 0) 8 88 Tryz.underlying24 HI.out hz0 hz1 hz2 rfl (by decide) _ _ _ rfl hown0 ⟨b, off, none⟩ k c (flatR ((rs.drop 0).take k)) rfl HLK.out HNW.out (flatR_one8 _) ?qa3 ?qa4 ?qa5 ?_))
                  case qa3 => unfold maxLen; simp; omega
                  case qa4 => simp; omega
                  case qa5 => simp
                  intro v5 w5 hown5 hgrow _
                  have HO1 : Hid (OutR8 W4 W4.heap.size ([] ++ (rs.drop 0).take k) v5 w5) := OutR8.push HO0.out HLK2.out (by simpa using hown5) hgrow
                  rw [List.nil_append, List.drop_zero] at HO1
                  have X := Lib.hid (X.out.next HO1.out.bel)
                  clear hown5 hgrow hown0 HO0 HNW HLK HLK2
                  obtain ⟨A5, c5, rfl⟩ := own_slice HO1.out.row
                  have hown1 := (HO1.out.next (ext1 w5 (.cells #[.string x.name, .int .i64 x.kind, .int .i64 x.num, .int .i64 x.den, .slice T x.terms.length ct, .int .i64 x.sp, .int .i64 x.sd, .int .i64 x.sq] 31))).row
                  have HO1' := Lib.hid (HO1.out.next (ext1 w5 (.cells #[.string x.name, .int .i64 x.kind, .int .i64 x.num, .int .i64 x.den, .slice T x.terms.length ct, .int .i64 x.sp, .int .i64 x.sd, .int .i64 x.sq] 31)))
                  have hl1 : (rs.take k).length = k := by rw [List.length_take]; omega
                  have hhi := HO1'.out.hi
                  rw [hl1] at hown1 ⊢
                  have HL1 := Lib.hid hl1
                  clear hl1
                  have y0 := X.out.at 0 _ rfl
                  have y1 := X.out.at 1 _ rfl
                  have y2 := X.out.at 2 _ rfl
                  have y3 := X.out.at 3 _ rfl
                  have y4 := X.out.at 4 _ rfl
                  have y5 := X.out.at 5 _ rfl
                  have y6 := X.out.at 6 _ rfl
                  have y7 := X.out.at 7 _ rfl
                  go_wp2_with (at_builtin; go_must (refine wpList_append_own _ rfl _ _ 24 rfl W4.heap.size 31 ti (ntV ByteArray.empty 0 0 0 none 0 0 0 0 0) 8 88 Tryz.underlying24 HI.out hz0 hz1 hz2 rfl (by decide) _ _ _ rfl hown1 ⟨w5.heap.size, 0, none⟩ 1 1 (ntC x T ct) rfl rfl (news_rowN _ _ _ rfl) ?qb2 ?qb3 ?qb4 ?qb5 ?_))
                  case qb2 => simp [ntC, Value.oneCell']
                  case qb3 => unfold maxLen; omega
                  case qb4 => omega
                  case qb5 => exact hhi
                  intro v6 w6 hown6 hgrow _
                  have HO2 : Hid (OutR8 W4 W4.heap.size (rs.take k ++ [⟨x, T, ct⟩]) v6 w6) := OutR8.push (m := 1) HO1'.out rfl (by rw [HL1.out, flatR_one]; exact hown6) (by rw [HL1.out]; exact hgrow)
                  clear hown6 hgrow hown1 HO1 HO1' X hhi
                  clear y0 y1 y2 y3 y4 y5 y6 y7
                  obtain ⟨A6, c6, rfl⟩ := own_slice HO2.out.row
                  have hown2 := HO2.out.row
                  have hhi2 := HO2.out.hi
                  have hl2 : (rs.take k ++ [(⟨x, T, ct⟩ : NtR)]).length = k + 1 := by rw [List.length_append, HL1.out]; rfl
                  rw [hl2] at hown2 ⊢
                  have HL2 := Lib.hid hl2
                  have HTR : Hid (∀ r ∈ rs.take k ++ [⟨x, T, ct⟩] ++ rs.drop k, RdT W4 W4.heap.size r.T r.c r.x.terms) := fun r hr' => by
                    have hin : ∀ q ∈ rs, RdT W4 W4.heap.size q.T q.c q.x.terms := fun q hq => by
                      obtain ⟨j, hj, rfl⟩ := List.getElem_of_mem hq
                      exact (HCR.out j _ (List.getElem?_eq_getElem hj)).2.1
                    rcases List.mem_append.1 hr' with hq | hq
                    · rcases List.mem_append.1 hq with hq | hq
                      · exact hin r (List.mem_of_mem_take hq)
                      · rw [List.mem_singleton.1 hq]; exact HXT.out.next E.out
                    · exact hin r (List.mem_of_mem_drop hq)
                  clear hl2
                  by_cases hck : c = k
                  · subst hck
                    go_wp2_with (at_builtin; go_must (refine wpList_append_own _ rfl _ _ 24 rfl W4.heap.size 31 ti (ntV ByteArray.empty 0 0 0 none 0 0 0 0 0) 8 88 Tryz.underlying24 HI.out hz0 hz1 hz2 rfl (by decide) _ _ _ rfl hown2 ⟨b, off, none⟩ 0 0 [] rfl rfl (fun _ _ h => by simp at h) (fun _ h => by simp at h) ?qd3 ?qd4 ?qd5 ?_))
                    case qd3 => unfold maxLen; omega
                    case qd4 => omega
                    case qd5 => exact hhi2
                    intro v8 w8 hown8 hgrow _
                    have HO3 : Hid (OutR8 W4 W4.heap.size (rs.take c ++ [⟨x, T, ct⟩] ++ []) v8 w8) := OutR8.push (m := 0) HO2.out rfl (by rw [HL2.out]; simpa [flatR] using hown8) (by rw [HL2.out]; exact hgrow)
                    rw [List.append_nil, ← show rs.take c ++ [(⟨x, T, ct⟩ : NtR)] ++ rs.drop c = rs.take c ++ [(⟨x, T, ct⟩ : NtR)] by rw [List.drop_eq_nil_of_le (show rs.length ≤ c by omega), List.append_nil]] at HO3
                    clear hown8 hgrow hown2 HO2
                    have hel : (rs.take c ++ [(⟨x, T, ct⟩ : NtR)] ++ rs.drop c).length = xs.length + 1 := by simp only [List.length_append, List.length_take, List.length_drop, List.length_cons, List.length_nil]; omega
                    obtain ⟨A6, c6, rfl, hrd6⟩ := HO3.out.rd (fun r hr' => HTR.out r hr')
                    have HC6 := Lib.hid (HCP.out A6 c6 (rs.take c ++ [⟨x, T, ct⟩] ++ rs.drop c) _ (by
                      intro q hq
                      rcases List.mem_append.1 hq with hq | hq
                      · rcases List.mem_append.1 hq with hq | hq
                        · exact HTL.out q (List.mem_of_mem_take hq)
                        · rw [List.mem_singleton.1 hq]; exact hxl
                      · exact HTL.out q (List.mem_of_mem_drop hq)) (by omega) hrd6)
                    have HB6 := Lib.hid (ext_trans E.out HO3.out.bel)
                    clear hel hrd6 HCP HO3
                    generalize (rs.take c ++ [(⟨x, T, ct⟩ : NtR)] ++ rs.drop c).length = ln at *
                    go_wp2_with fail
                    refine HC6.out.mono ?_
                    rintro e w7 ⟨qs, own, v7, rfl, hq, hO⟩
                    have HO7 := Lib.hid hO
                    have HQ7 := Lib.hid hq
                    clear hq hO
                    go_wp2
                    go_ret2
                    rw [H1.out, H2.out]
                    exact OutNt.retL HO7.out HB6.out 0 (by rw [HQ7.out, List.map_append, List.map_append, List.map_take, List.map_drop, HMP.out]; rfl)
                  · go_wp2_with (at_builtin; go_must (refine wpList_append_own _ rfl _ _ 24 rfl W4.heap.size 31 ti (ntV ByteArray.empty 0 0 0 none 0 0 0 0 0) 8 88 Tryz.underlying24 HI.out hz0 hz1 hz2 rfl (by decide) _ _ _ rfl hown2 ⟨b, off + k * 8, none⟩ (xs.length - k) (c - k) (flatR ((rs.drop k).take (xs.length - k))) rfl ?qe1 ?qe2 (flatR_one8 _) ?qe3 ?qe4 ?qe5 ?_))
                    case qe1 => rw [flatR_length, List.length_take, List.length_drop]; omega
                    case qe2 => exact HNX.out _ k _ HO2.out.bel
                    case qe3 => unfold maxLen; omega
                    case qe4 => omega
                    case qe5 => exact hhi2
                    intro v8 w8 hown8 hgrow _
                    have HO3 : Hid (OutR8 W4 W4.heap.size (rs.take k ++ [⟨x, T, ct⟩] ++ (rs.drop k).take (xs.length - k)) v8 w8) := OutR8.push (m := xs.length - k) HO2.out (by rw [List.length_take, List.length_drop]; omega) (by rw [HL2.out]; exact hown8) (by rw [HL2.out]; exact hgrow)
                    rw [List.take_of_length_le (l := rs.drop k) (by rw [List.length_drop]; omega)] at HO3
                    clear hown8 hgrow hown2 HO2
                    have hel : (rs.take k ++ [(⟨x, T, ct⟩ : NtR)] ++ rs.drop k).length = xs.length + 1 := by simp only [List.length_append, List.length_take, List.length_drop, List.length_cons, List.length_nil]; omega
                    obtain ⟨A6, c6, rfl, hrd6⟩ := HO3.out.rd (fun r hr' => HTR.out r hr')
                    have HC6 := Lib.hid (HCP.out A6 c6 (rs.take k ++ [⟨x, T, ct⟩] ++ rs.drop k) _ (by
                      intro q hq
                      rcases List.mem_append.1 hq with hq | hq
                      · rcases List.mem_append.1 hq with hq | hq
                        · exact HTL.out q (List.mem_of_mem_take hq)
                        · rw [List.mem_singleton.1 hq]; exact hxl
                      · exact HTL.out q (List.mem_of_mem_drop hq)) (by omega) hrd6)
                    have HB6 := Lib.hid (ext_trans E.out HO3.out.bel)
                    clear hel hrd6 HCP HO3
                    generalize (rs.take k ++ [(⟨x, T, ct⟩ : NtR)] ++ rs.drop k).length = ln at *
                    go_wp2_with fail
                    refine HC6.out.mono ?_
                    rintro e w7 ⟨qs, own, v7, rfl, hq, hO⟩
                    have HO7 := Lib.hid hO
                    have HQ7 := Lib.hid hq
                    clear hq hO
                    go_wp2
                    go_ret2
                    rw [H1.out, H2.out]
                    exact OutNt.retL HO7.out HB6.out 0 (by rw [HQ7.out, List.map_append, List.map_append, List.map_take, List.map_drop, HMP.out]; rfl)
                · clear htot
                  go_wp2_with fail
                  go_quiet (fail)
                  generalize hkq : kk + 1 = k at *
                  clear hkq y0 c0 HY i1 i2 i3 i4 t1 t2 v1 v2 hl1 hb hA
                  have H2 := Lib.hid (show anX xs x = xs.take k ++ [x] ++ xs.drop k by rw [H2.out, HKK.out])
                  generalize hW4 : (w3.drewN nn).drewN _ = W4
                  have hb4 : Below w3.heap.size w3 W4 := by rw [← hW4]; exact ⟨rfl, rfl, rfl, Nat.le_refl _, fun _ _ => rfl⟩
                  have X := Lib.hid (X.out.next hb4)
                  have E := Lib.hid (ext_trans E.out hb4)
                  clear hb4 hW4 HK HKK
                  have HCR : Hid (∀ j r, rs[j]? = some r → RowAt W4 b (off + j * 8) r.cells ∧ RdT W4 W4.heap.size r.T r.c r.x.terms ∧ b < W4.heap.size) := fun j r hr' => by
                    obtain ⟨b', off', e', hb', hc'⟩ := (HRD.out.next E.out) (by have := (List.getElem?_eq_some_iff.1 hr').1; omega)
                    injection e' with e'
                    injection e' with e1 e2
                    subst e1 e2
                    exact ⟨(hc' j r hr').1, (hc' j r hr').2, hb'⟩
                  have HNX : Hid (∀ (W : World) (p q : Nat), Below W4.heap.size W4 W → ∀ i u, (flatR ((rs.drop p).take q))[i]? = some u → W.cell? ((⟨b, off + p * 8, none⟩ : Addr).add i) = some u) := fun W p q hW i u hu => by
                    have h0 : 0 < rs.length := by
                      rcases Nat.eq_zero_or_pos rs.length with h | h
                      · rw [List.eq_nil_of_length_eq_zero h] at hu; simp [flatR] at hu
                      · exact h
                    have hbl := (HCR.out 0 _ (List.getElem?_eq_getElem h0)).2.2
                    rw [← RdR.news (fun j r hr' => ⟨(HCR.out j r hr').1, (HCR.out j r hr').2.1⟩) p q i u hu]
                    exact hW.cell (p := (⟨b, off + p * 8, none⟩ : Addr).add i) (by rw [Addr.add_lit]; exact hbl)
                  have HO0 := Lib.hid (OutR8.start W4)
                  have hown0 := HO0.out.row
                  have hkc : k ≤ c := by omega
                  have i0 : (0 : Int) ≤ (k : Int) := by omega
                  have HLK : Hid ((flatR ((rs.drop 0).take k)).length = k * 8) := by unfold Hid; rw [flatR_length, List.length_take, List.drop_zero]; omega
                  have HLK2 : Hid (((rs.drop 0).take k).length = k) := by unfold Hid; rw [List.length_take, List.drop_zero]; omega
                  have HNW : Hid (∀ j u, (flatR ((rs.drop 0).take k))[j]? = some u → (W4.alloc (.cells #[] 31)).cell? ((⟨b, off, none⟩ : Addr).add j) = some u) := fun j u hu => by
                    have h := HNX.out _ 0 k (ext1 W4 (.cells #[] 31)) j u hu
                    rwa [Nat.zero_mul, Nat.add_zero] at h
                  go_wp2_with (at_builtin; go_must (refine wpList_append_own _ rfl _ _ 24 rfl W4.heap.size 31 ti (ntV ByteArray.empty 0 0 0 none 0 0 0 0 0) 8 88 Tryz.underlying24 HI.out hz0 hz1 hz2 rfl (by decide) _ _ _ rfl hown0 ⟨b, off, none⟩ k c (flatR ((rs.drop 0).take k)) rfl HLK.out HNW.out (flatR_one8 _) ?ua3 ?ua4 ?ua5 ?_))
                  case ua3 => unfold maxLen; simp; omega
                  case ua4 => simp; omega
                  case ua5 => simp
                  intro v5 w5 hown5 hgrow _
                  have HO1 : Hid (OutR8 W4 W4.heap.size ([] ++ (rs.drop 0).take k) v5 w5) := OutR8.push HO0.out HLK2.out (by simpa using hown5) hgrow
                  rw [List.nil_append, List.drop_zero] at HO1
                  have X := Lib.hid (X.out.next HO1.out.bel)
                  clear hown5 hgrow hown0 HO0 HNW HLK HLK2
                  obtain ⟨A5, c5, rfl⟩ := own_slice HO1.out.row
                  have hown1 := (HO1.out.next (ext1 w5 (.cells #[.string x.name, .int .i64 x.kind, .int .i64 x.num, .int .i64 x.den, .slice T x.terms.length ct, .int .i64 x.sp, .int .i64 x.sd, .int .i64 x.sq] 31))).row
                  have HO1' := Lib.hid (HO1.out.next (ext1 w5 (.cells #[.string x.name, .int .i64 x.kind, .int .i64 x.num, .int .i64 x.den, .slice T x.terms.length ct, .int .i64 x.sp, .int .i64 x.sd, .int .i64 x.sq] 31)))
                  have hl1 : (rs.take k).length = k := by rw [List.length_take]; omega
                  have hhi := HO1'.out.hi
                  rw [hl1] at hown1 ⊢
                  have HL1 := Lib.hid hl1
                  clear hl1
                  have y0 := X.out.at 0 _ rfl
                  have y1 := X.out.at 1 _ rfl
                  have y2 := X.out.at 2 _ rfl
                  have y3 := X.out.at 3 _ rfl
                  have y4 := X.out.at 4 _ rfl
                  have y5 := X.out.at 5 _ rfl
                  have y6 := X.out.at 6 _ rfl
                  have y7 := X.out.at 7 _ rfl
                  go_wp2_with (at_builtin; go_must (refine wpList_append_own _ rfl _ _ 24 rfl W4.heap.size 31 ti (ntV ByteArray.empty 0 0 0 none 0 0 0 0 0) 8 88 Tryz.underlying24 HI.out hz0 hz1 hz2 rfl (by decide) _ _ _ rfl hown1 ⟨w5.heap.size, 0, none⟩ 1 1 (ntC x T ct) rfl rfl (news_rowN _ _ _ rfl) ?ub2 ?ub3 ?ub4 ?ub5 ?_))
                  case ub2 => simp [ntC, Value.oneCell']
                  case ub3 => unfold maxLen; omega
                  case ub4 => omega
                  case ub5 => exact hhi
                  intro v6 w6 hown6 hgrow _
                  have HO2 : Hid (OutR8 W4 W4.heap.size (rs.take k ++ [⟨x, T, ct⟩]) v6 w6) := OutR8.push (m := 1) HO1'.out rfl (by rw [HL1.out, flatR_one]; exact hown6) (by rw [HL1.out]; exact hgrow)
                  clear hown6 hgrow hown1 HO1 HO1' X hhi
                  clear y0 y1 y2 y3 y4 y5 y6 y7
                  obtain ⟨A6, c6, rfl⟩ := own_slice HO2.out.row
                  have hown2 := HO2.out.row
                  have hhi2 := HO2.out.hi
                  have hl2 : (rs.take k ++ [(⟨x, T, ct⟩ : NtR)]).length = k + 1 := by rw [List.length_append, HL1.out]; rfl
                  rw [hl2] at hown2 ⊢
                  have HL2 := Lib.hid hl2
                  have HTR : Hid (∀ r ∈ rs.take k ++ [⟨x, T, ct⟩] ++ rs.drop k, RdT W4 W4.heap.size r.T r.c r.x.terms) := fun r hr' => by
                    have hin : ∀ q ∈ rs, RdT W4 W4.heap.size q.T q.c q.x.terms := fun q hq => by
                      obtain ⟨j, hj, rfl⟩ := List.getElem_of_mem hq
                      exact (HCR.out j _ (List.getElem?_eq_getElem hj)).2.1
                    rcases List.mem_append.1 hr' with hq | hq
                    · rcases List.mem_append.1 hq with hq | hq
                      · exact hin r (List.mem_of_mem_take hq)
                      · rw [List.mem_singleton.1 hq]; exact HXT.out.next E.out
                    · exact hin r (List.mem_of_mem_drop hq)
                  clear hl2
                  by_cases hck : c = k
                  · subst hck
                    go_wp2_with (at_builtin; go_must (refine wpList_append_own _ rfl _ _ 24 rfl W4.heap.size 31 ti (ntV ByteArray.empty 0 0 0 none 0 0 0 0 0) 8 88 Tryz.underlying24 HI.out hz0 hz1 hz2 rfl (by decide) _ _ _ rfl hown2 ⟨b, off, none⟩ 0 0 [] rfl rfl (fun _ _ h => by simp at h) (fun _ h => by simp at h) ?ud3 ?ud4 ?ud5 ?_))
                    case ud3 => unfold maxLen; omega
                    case ud4 => omega
                    case ud5 => exact hhi2
                    intro v8 w8 hown8 hgrow _
                    have HO3 : Hid (OutR8 W4 W4.heap.size (rs.take c ++ [⟨x, T, ct⟩] ++ []) v8 w8) := OutR8.push (m := 0) HO2.out rfl (by rw [HL2.out]; simpa [flatR] using hown8) (by rw [HL2.out]; exact hgrow)
                    rw [List.append_nil, ← show rs.take c ++ [(⟨x, T, ct⟩ : NtR)] ++ rs.drop c = rs.take c ++ [(⟨x, T, ct⟩ : NtR)] by rw [List.drop_eq_nil_of_le (show rs.length ≤ c by omega), List.append_nil]] at HO3
                    clear hown8 hgrow hown2 HO2
                    have hel : (rs.take c ++ [(⟨x, T, ct⟩ : NtR)] ++ rs.drop c).length = xs.length + 1 := by simp only [List.length_append, List.length_take, List.length_drop, List.length_cons, List.length_nil]; omega
                    obtain ⟨A6, c6, rfl, hrd6⟩ := HO3.out.rd (fun r hr' => HTR.out r hr')
                    have HC6 := Lib.hid (HCP.out A6 c6 (rs.take c ++ [⟨x, T, ct⟩] ++ rs.drop c) _ (by
                      intro q hq
                      rcases List.mem_append.1 hq with hq | hq
                      · rcases List.mem_append.1 hq with hq | hq
                        · exact HTL.out q (List.mem_of_mem_take hq)
                        · rw [List.mem_singleton.1 hq]; exact hxl
                      · exact HTL.out q (List.mem_of_mem_drop hq)) (by omega) hrd6)
                    have HB6 := Lib.hid (ext_trans E.out HO3.out.bel)
                    clear hel hrd6 HCP HO3
                    generalize (rs.take c ++ [(⟨x, T, ct⟩ : NtR)] ++ rs.drop c).length = ln at *
                    go_wp2_with fail
                    refine HC6.out.mono ?_
                    rintro e w7 ⟨qs, own, v7, rfl, hq, hO⟩
                    have HO7 := Lib.hid hO
                    have HQ7 := Lib.hid hq
                    clear hq hO
                    go_wp2
                    go_ret2
                    rw [H1.out, H2.out]
                    exact OutNt.retL HO7.out HB6.out 0 (by rw [HQ7.out, List.map_append, List.map_append, List.map_take, List.map_drop, HMP.out]; rfl)
                  · go_wp2_with (at_builtin; go_must (refine wpList_append_own _ rfl _ _ 24 rfl W4.heap.size 31 ti (ntV ByteArray.empty 0 0 0 none 0 0 0 0 0) 8 88 Tryz.underlying24 HI.out hz0 hz1 hz2 rfl (by decide) _ _ _ rfl hown2 ⟨b, off + k * 8, none⟩ (xs.length - k) (c - k) (flatR ((rs.drop k).take (xs.length - k))) rfl ?ue1 ?ue2 (flatR_one8 _) ?ue3 ?ue4 ?ue5 ?_))
                    case ue1 => rw [flatR_length, List.length_take, List.length_drop]; omega
                    case ue2 => exact HNX.out _ k _ HO2.out.bel
                    case ue3 => unfold maxLen; omega
                    case ue4 => omega
                    case ue5 => exact hhi2
                    intro v8 w8 hown8 hgrow _
                    have HO3 : Hid (OutR8 W4 W4.heap.size (rs.take k ++ [⟨x, T, ct⟩] ++ (rs.drop k).take (xs.length - k)) v8 w8) := OutR8.push (m := xs.length - k) HO2.out (by rw [List.length_take, List.length_drop]; omega) (by rw [HL2.out]; exact hown8) (by rw [HL2.out]; exact hgrow)
                    rw [List.take_of_length_le (l := rs.drop k) (by rw [List.length_drop]; omega)] at HO3
                    clear hown8 hgrow hown2 HO2
                    have hel : (rs.take k ++ [(⟨x, T, ct⟩ : NtR)] ++ rs.drop k).length = xs.length + 1 := by simp only [List.length_append, List.length_take, List.length_drop, List.length_cons, List.length_nil]; omega
                    obtain ⟨A6, c6, rfl, hrd6⟩ := HO3.out.rd (fun r hr' => HTR.out r hr')
                    have HC6 := Lib.hid (HCP.out A6 c6 (rs.take k ++ [⟨x, T, ct⟩] ++ rs.drop k) _ (by
                      intro q hq
                      rcases List.mem_append.1 hq with hq | hq
                      · rcases List.mem_append.1 hq with hq | hq
                        · exact HTL.out q (List.mem_of_mem_take hq)
                        · rw [List.mem_singleton.1 hq]; exact hxl
                      · exact HTL.out q (List.mem_of_mem_drop hq)) (by omega) hrd6)
                    have HB6 := Lib.hid (ext_trans E.out HO3.out.bel)
                    clear hel hrd6 HCP HO3
                    generalize (rs.take k ++ [(⟨x, T, ct⟩ : NtR)] ++ rs.drop k).length = ln at *
                    go_wp2_with fail
                    refine HC6.out.mono ?_
                    rintro e w7 ⟨qs, own, v7, rfl, hq, hO⟩
                    have HO7 := Lib.hid hO
                    have HQ7 := Lib.hid hq
                    clear hq hO
                    go_wp2
                    go_ret2
                    rw [H1.out, H2.out]
                    exact OutNt.retL HO7.out HB6.out 0 (by rw [HQ7.out, List.map_append, List.map_append, List.map_take, List.map_drop, HMP.out]; rfl)
              · have HKN : Hid (anK xs x.name xs.length = anK xs x.name kk) := by unfold Hid; rw [HK.out]; exact anK_go HY.out hlb
                unfold ltB at hlb
                rw [hlb] at htot
                clear hlb
                obtain ⟨hl1, hl2⟩ : Op.bytesLess r.x.name.toList x.name.toList = false ∧ (r.x.name.toList == x.name.toList) = false := by simpa using htot
                clear htot
                go_wp2_with fail
                go_quiet (fail)
                clear v1 v2
                go_wp2
                go_roundw
                case rel => exact ⟨kk, by omega, by go_num, HKN.out, _, rfl⟩
                case measure => simp [intOf]
      · have h1 : anC xs x = 4 := by rw [HC.out, if_pos (show (true && true) = true from rfl), if_neg hneg]
        have h2 : anX xs x = [] := by rw [HX.out, if_neg (by omega)]
        have H1 := Lib.hid h1
        have H2 := Lib.hid h2
        have hge : 0 ≤ fndN x.name xs 0 := by omega
        clear h1 h2 HC HX
        generalize fndN x.name xs 0 = R at *
        go_wp2
        go_ret2
        rw [H1.out, H2.out]
        exact RetNtL.nil_ 4 E.out
end Go.Proofs.YtpnabggpdgjbmaaGreatDoor
