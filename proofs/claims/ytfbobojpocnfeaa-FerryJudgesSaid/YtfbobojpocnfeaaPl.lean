/- The program's plan: a walk. -/
import Derived.Test.YtfbobojpocnfeaaGh
import Derived.Test.YtfbobojpocnfeaaSh
namespace Go.Proofs.Ytfbobojpocnfeaa
open Go.RowKit Go.Shelf
attribute [local go_sem] Oper.semAt_some
theorem field_who (a b c : Value) (w : World) : (Instr.field 76 (.agg #[a, b, c]) 1).run Try.prog w = .ok c w := by kernel_rfl
theorem field_from (a b c : Value) (w : World) : (Instr.field 76 (.agg #[a, b, c]) 0).run Try.prog w = .ok (.agg #[a, b]) w := by kernel_rfl
attribute [local go_sem] field_who field_from

set_option maxRecDepth 100000 in
set_option maxHeartbeats 2000000 in
theorem plan_in (B : Nat) (g : List Nat) (seats : Nat) (w : World) (hl : g.length ≤ 10) (hsm : ∀ i : Nat, Sm (g[i]?.getD 0)) (hg : Crowd w B g) (hst : start g ≠ goal) :
    CallsIn Fence.wide 5 Try.prog 36 #[.pointer (some ⟨B, 0, none⟩), .int .i64 (seats : Int)] w fun e w' => ∃ v ok, e = .returned (.tuple #[v, .bool ok]) ∧ Below w.heap.size w w' ∧ PlanR g seats w.heap.size v ok w' := by
  refine callsIn_of_wp_marks Try.func36 rfl trivial ?_ rfl
  simp only [Try.ntmps36, List.size_toArray, List.length_cons, List.length_nil, Nat.reduceAdd, Nat.reduceSub, Array.replicate_succ, Array.replicate_zero, List.push_toArray, List.append_toArray, List.nil_append, List.cons_append]
  have hn := hg.n
  have hBlt := hg.lt
  have hfs : Sm (full g.length) := sm_full (by omega)
  have hmm := @run_makeMap Try.prog
  gi_wp2_with (first
    | (with_reducible refine wpListIn_insert rfl (.tmp 23) (.tmp 24) (.tmp 25) rfl (w.heap.size + 1 + 1 + 1 + 1 + 1 + 1) [] (start g) (0, false) 0 rfl rfl rfl ?_ rfl ?_)
    | (gi_at_call 37; go_must (refine (callsIn_wide.2 (call_any B g.length _ (by omega) (by repeat (first | exact hn | refine cell_al _ ?_)))).mono ?_); rintro e w' ⟨rfl, rfl⟩))
  · have := MapF.made (((((((w.alloc (Obj.cells #[Value.pointer (some { block := B, off := 0 })] 56)).alloc (Obj.cells #[Value.int IntKind.i64 ↑seats] 3)).alloc (Obj.cells #[Value.slice none 0 0] 25)).alloc (Obj.cells #[Value.bool false] 4)).alloc (Obj.cells #[Value.int IntKind.i64 ↑(full g.length), Value.bool false] 74)).alloc (Obj.cells #[Value.int IntKind.i64 0, Value.bool true] 74)))
    simpa using this
  · intro W1 hmap hgrow
    have hsz := hgrow.size
    have b0 := (((((((boxed_at (W := w) (t := 56) (v := .pointer (some ⟨B, 0, none⟩)) rfl).alloc (Obj.cells #[Value.int IntKind.i64 ↑seats] 3)).alloc (Obj.cells #[Value.slice none 0 0] 25)).alloc (Obj.cells #[Value.bool false] 4)).alloc (Obj.cells #[Value.int IntKind.i64 ↑(full g.length), Value.bool false] 74)).alloc (Obj.cells #[Value.int IntKind.i64 0, Value.bool true] 74)).alloc (Obj.map #[] 0)).kept hgrow (by first | (simp; done) | (simp; omega))
    have b1 := ((((((boxed_at (W := w.alloc (Obj.cells #[Value.pointer (some { block := B, off := 0 })] 56)) (B := w.heap.size + 1) (t := 3) (v := .int .i64 (seats : Int)) (by simp)).alloc (Obj.cells #[Value.slice none 0 0] 25)).alloc (Obj.cells #[Value.bool false] 4)).alloc (Obj.cells #[Value.int IntKind.i64 ↑(full g.length), Value.bool false] 74)).alloc (Obj.cells #[Value.int IntKind.i64 0, Value.bool true] 74)).alloc (Obj.map #[] 0)).kept hgrow (by first | (simp; done) | (simp; omega))
    have b2 := (((((boxed_at (W := (w.alloc (Obj.cells #[Value.pointer (some { block := B, off := 0 })] 56)).alloc (Obj.cells #[Value.int IntKind.i64 ↑seats] 3)) (B := w.heap.size + 1 + 1) (t := 25) (v := .slice none 0 0) (by simp)).alloc (Obj.cells #[Value.bool false] 4)).alloc (Obj.cells #[Value.int IntKind.i64 ↑(full g.length), Value.bool false] 74)).alloc (Obj.cells #[Value.int IntKind.i64 0, Value.bool true] 74)).alloc (Obj.map #[] 0)).kept hgrow (by first | (simp; done) | (simp; omega))
    have b3 := ((((boxed_at (W := ((w.alloc (Obj.cells #[Value.pointer (some { block := B, off := 0 })] 56)).alloc (Obj.cells #[Value.int IntKind.i64 ↑seats] 3)).alloc (Obj.cells #[Value.slice none 0 0] 25)) (B := w.heap.size + 1 + 1 + 1) (t := 4) (v := .bool false) (by simp)).alloc (Obj.cells #[Value.int IntKind.i64 ↑(full g.length), Value.bool false] 74)).alloc (Obj.cells #[Value.int IntKind.i64 0, Value.bool true] 74)).alloc (Obj.map #[] 0)).kept hgrow (by first | (simp; done) | (simp; omega))
    have b4 := (((BoxN.new (W := (((w.alloc (Obj.cells #[Value.pointer (some { block := B, off := 0 })] 56)).alloc (Obj.cells #[Value.int IntKind.i64 ↑seats] 3)).alloc (Obj.cells #[Value.slice none 0 0] 25)).alloc (Obj.cells #[Value.bool false] 4)) (B := w.heap.size + 1 + 1 + 1 + 1) (t := 74) (vs := #[Value.int IntKind.i64 ↑(full g.length), Value.bool false]) (by simp)).alloc (Obj.cells #[Value.int IntKind.i64 0, Value.bool true] 74)).alloc (Obj.map #[] 0)).kept hgrow (by first | (simp; done) | (simp; omega))
    have b5 := ((BoxN.new (W := ((((w.alloc (Obj.cells #[Value.pointer (some { block := B, off := 0 })] 56)).alloc (Obj.cells #[Value.int IntKind.i64 ↑seats] 3)).alloc (Obj.cells #[Value.slice none 0 0] 25)).alloc (Obj.cells #[Value.bool false] 4)).alloc (Obj.cells #[Value.int IntKind.i64 ↑(full g.length), Value.bool false] 74)) (B := w.heap.size + 1 + 1 + 1 + 1 + 1) (t := 74) (vs := #[Value.int IntKind.i64 0, Value.bool true]) (by simp)).alloc (Obj.map #[] 0)).kept hgrow (by first | (simp; done) | (simp; omega))
    have hB1 : Below w.heap.size w W1 := Below.grown (((((((Below.refl _ w).alloc (Nat.le_refl _) _).alloc (by simp) _).alloc (by simp; omega) _).alloc (by simp; omega) _).alloc (by simp; omega) _).alloc (by simp; omega) _ |>.alloc (by simp; omega) _) hgrow (by simp; omega) (fun k e => by cases e; omega)
    simp only [World.size_alloc] at hsz
    obtain ⟨M, hM⟩ : ∃ M, Hid (M = W1.heap.size) := ⟨_, rfl⟩
    have hM1 : w.heap.size + 1 + 1 + 1 + 1 + 1 + 1 < M := by rw [hM.out]; omega
    have c4a := b4.cell 0
    have c4b := b4.cell 1
    simp only [List.getElem?_toArray, List.getElem?_cons_zero, List.getElem?_cons_succ] at c4a c4b
    have z0 := b0.lt
    have z1 := b1.lt
    have z4 := b4.lt
    have z5 := b5.lt
    clear hgrow hmm hsz
    gi_wp2
    refine wpIn_loop_ghost_k (PI w B M seats g) (2 * 2 ^ g.length) ?_ ?_
    · have hMe := hM.out
      subst hMe
      have ag : Ag (fun _ => False) W1 (((W1.alloc (.cells #[.map (some (w.heap.size + 1 + 1 + 1 + 1 + 1 + 1))] 77)).alloc (.cells #[.int .i64 ((full g.length : Nat) : Int), .bool false] 74)).alloc (.cells #[.slice (some ⟨W1.heap.size + 1, 0, none⟩) 1 1] 78)) := (((Ag.refl _ W1).alloc _).alloc _).alloc _
      refine ⟨[], [(start g, (0, false), 0)], [0], 0, planFr_of _ rfl, rfl, ⟨hM1, ag.boxed b0 id, ag.boxed b1 id, ag.boxN b4 id, ag.boxN b5 id, ((boxed_at rfl).alloc _).alloc _, ag.below hB1 hB1.size (fun _ _ h => h), List.nodup_nil, fun D h => by cases h⟩, ag.boxed b2 id, ag.boxed b3 id, hmap.ag ag id, ⟨_, boxed_at (by simp), by simp [stCells], .inr ⟨W1.heap.size + 1, 0, 1, _, rfl, Nat.le_refl _, (BoxN.new (W := W1.alloc (.cells #[.map (some (w.heap.size + 1 + 1 + 1 + 1 + 1 + 1))] 77)) (B := W1.heap.size + 1) (by simp)).alloc _, Nat.le_refl _, by unfold maxLen; omega, by simp, fun j hj => ?_⟩⟩, Inv.start seats hst, by omega⟩
      simp [stCells, start]
    · intro k a W hI J K hJ hK
      obtain ⟨Ds, frm, ds, i, ⟨j, hj⟩, hd, hfix, hres, hok, hmapW, ⟨qv, hqb, hqr⟩, hinv, hki⟩ := hI
      obtain ⟨tm, df⟩ := a
      simp only at hj hd
      subst hj
      subst hd
      simp only [planFr]
      clear hmap b0 b1 b2 b3 b4 b5 hB1 c4a c4b z0 z1 z4 z5 hM
      by_cases hil : i < frm.length
      · obtain ⟨⟨⟨sa, sb⟩, y⟩, hkey⟩ : ∃ f, frm[i]? = some f := ⟨_, List.getElem?_eq_getElem hil⟩
        have hdrop : (frm.map (·.1)).drop i = (sa, sb) :: (frm.map (·.1)).drop (i + 1) := by
          rw [List.drop_eq_getElem_cons (by simpa using hil)]
          congr 1
          have := List.getElem?_eq_some_iff.1 hkey
          rw [List.getElem_map, this.2]
        rw [hdrop] at hqr
        obtain ⟨rest, hrest⟩ : ∃ rest, Hid (rest = (frm.map (·.1)).drop (i + 1)) := ⟨_, rfl⟩
        rw [← hrest.out] at hqr
        clear hdrop
        obtain ⟨q, o, cap, rfl, hq1, hq2, hq3, hq4, hqcell, hqfr⟩ := hqr.at (by simp)
        have k0 := hqcell 0 (by simp)
        have k1 := hqcell 1 (by simp; omega)
        have e0 : (stCells ((sa, sb) :: rest))[0]? = some (.int .i64 (sa : Int)) := rfl
        have e1 : (stCells ((sa, sb) :: rest))[1]? = some (.bool sb) := rfl
        rw [e0] at k0
        rw [e1] at k1
        rw [Nat.add_zero] at k0
        simp only [List.length_cons] at hqr hqb hq3
        have hqc := hqb.cell
        have hqf := hqb.frozen
        have hcc := hfix.c.cell
        clear hqcell hqfr e0 e1
        have htail := hqr.tail
        have hsl := fun W => tail_run q o cap rest.length (by omega) hq4 W
        obtain ⟨qa, hqa⟩ : ∃ qa : Addr, qa = if cap = 1 then ⟨q, o, none⟩ else ⟨q, o + 2, none⟩ := ⟨_, rfl⟩
        rw [← hqa] at htail hsl
        have hqab : qa.block = q := by rw [hqa]; split <;> rfl
        have hrest2 : (stCells ((sa, sb) :: rest)).drop 2 = stCells rest := rfl
        rw [hrest2] at htail
        have HQA := Lib.hid hqab
        clear hqa hqab hrest2
        have hz1 := hqb.lt
        have hne1 : ¬ (M + 1 + 1 = W.heap.size) := by omega
        have hsaw : Within sa (full g.length) := hinv.within i _ _ hkey
        have hsas : Sm sa := Nat.lt_of_le_of_lt hsaw.le hfs
        have hibnd : i < 2 * 2 ^ g.length := by have := hinv.bound; omega
        gi_upto_if 40 with (fail)
        refine wpIn_cut0 (PR w B M seats g Ds frm rest W.heap.size (sa, sb)) ?_ ?_
        · rintro ⟨tm2, df2⟩ W2 ⟨⟨j2, hj2⟩, hd2, hmid⟩
          simp only at hj2 hd2
          subst hj2
          subst hd2
          simp only [planFr2]
          have hmid0 := hmid
          obtain ⟨hfix2, hres2, hok2, hmap2, hque2, hsb2, hbb2, hs2⟩ := hmid
          have hgW2 := hg.below hfix2.below hBlt
          have hnW2 := hgW2.n
          have cc2 := hfix2.c.cell
          have cb2 := hbb2.cell
          have hbks : Sm (bank g (sa, sb)) := Nat.lt_of_le_of_lt (bank_within hsaw).le hfs
          gi_wp2
          gi_quiet ((gi_at_call 37; exact CallsIn.quiet_of_same (callsIn_wide.2 (call_any B g.length _ (by omega) hnW2))))
          cases hqo : quietB g (ldiff (full g.length) (bank g (sa, sb))) with
          | false =>
            gi_wp2_with (first | (gi_at_call 38; refine (callsIn_wide.2 (cquiet_any B g (ldiff (full g.length) (bank g (sa, sb))) _ hl (sm_ldiff _ hfs) hsm (hgW2.drewN _))).mono ?_; rintro e w' ⟨rfl, rfl⟩))
            have hfin : ∃ ds', Inv g seats frm ds' (i + 1) := Mid.finish hinv hkey (Mid.begin hinv) (fun p hL => by have := hL.2.2.2; rw [hqo] at this; cases this) (fun f hf => by
              obtain ⟨m, hm⟩ := List.getElem?_of_mem hf
              exact hinv.goal m f.1 f.2 hm)
            obtain ⟨ds', hinv'⟩ := hfin
            obtain ⟨v2, hv2, hv3, _⟩ := hque2
            refine ⟨k - 1, by omega, hJ _ _ _ ⟨Ds, frm, ds', i + 1, planFr_of _ rfl, rfl, hfix2.ag ((Ag.refl (fun _ => False) W2).drewN nq) (fun _ h => h.elim) (fun _ h => h.elim), hres2, hok2, hmap2, ⟨v2, hv2, ?_⟩, hinv', by omega⟩⟩
            rw [← hrest.out]
            exact hv3
          | true =>
            gi_wp2_with (first | (gi_at_call 38; refine (callsIn_wide.2 (cquiet_any B g (ldiff (full g.length) (bank g (sa, sb))) _ hl (sm_ldiff _ hfs) hsm (hgW2.drewN _))).mono ?_; rintro e w' ⟨rfl, rfl⟩) | (gi_at_call 45; refine (callsIn_wide.2 (within_in _ _)).mono ?_; rintro e w' ⟨rfl, rfl⟩))
            have hDlt : ∀ D ∈ Ds, D < W2.heap.size := fun D hD => (Array.getElem?_eq_some_iff.1 (hfix2.marks.2 D hD).2).1
            have hW2 : M + 1 + 1 < W2.heap.size := hque2.elim fun v h => h.1.lt
            have hag1 : Ag (fun _ => False) W2 ((W2.drewN nq).alloc (.cells #[.int .i64 ((bank g (sa, sb) : Nat) : Int)] 3)) := ((Ag.refl (fun _ => False) W2).drewN nq).alloc _
            refine rf_setsG (by decide) (gf := 52) (lb := #[.pointer (some ⟨W2.heap.size, 0, none⟩)]) rfl (enters_of Try.func52 (by kernel_rfl) rfl)
              (within_stops 4 (by decide) W2.heap.size (bank g (sa, sb)) hbks _ (by simp) (boxed_at (W := W2.drewN nq) rfl).cell) keepsBox_t keepsBox_b (KeepsBox.refl _) (by simp)
              (PIn w B M seats g Ds frm ds i (sa, sb) W.heap.size W2.heap.size)
              (PStop w B M seats g Ds W.heap.size (sa, sb))
              ?hI ?hIx ?h0 ?body ?done ?stop
            case hI => exact PIn.own (by simp; omega) (fun D hD => by have := hDlt D hD; simp; omega)
            case hIx => exact fun c => PStop.own (by simp; omega) (fun D hD => by have := hDlt D hD; simp; omega)
            case h0 => exact ⟨by have h9 := hmid0.same hag1; rw [hrest.out] at h9; exact h9, ⟨fun _ => Mid.begin hinv, fun f hf => by obtain ⟨m, hm⟩ := List.getElem?_of_mem (show f ∈ frm from hf); exact hinv.goal m f.1 f.2 hm, by simp [frmF], Nat.le_refl _⟩, boxed_at rfl⟩
            case body =>
              rintro l pre x V ⟨hmidV, hpure, hbxV⟩ hplen
              have hmidV0 := hmidV
              obtain ⟨hfixV, hresV, hokV, hmapV, hqueV, hsbV, hbbV, hsV⟩ := hmidV
              simp only [List.setIfInBounds_toArray, List.set_cons_zero, List.set_cons_succ]
              have hgV := hg.below hfixV.below hBlt
              have cc := hfixV.c.cell
              have cs := hfixV.seats.cell
              have cb := hbbV.cell
              have s0 := hsbV.cell 0
              have s1 := hsbV.cell 1
              simp only [List.getElem?_toArray, List.getElem?_cons_zero, List.getElem?_cons_succ] at s0 s1
              have hxs : Sm x.1 := x.2
              have HP := Lib.hid hpure
              clear hpure
              by_cases h1 : size x.1 ≤ seats
              · have hd1 : decide (seats < size x.1) = false := decide_eq_false (by omega)
                cases h2 : quietB g (ldiff (bank g (sa, sb)) x.1) with
                | true =>
                  gi_wp2
                  refine quietR_lit (by kernel_rfl) (by kernel_rfl) (by kernel_rfl) ?_
                  repeat (gi_big_quiet_step ((first
                    | (gi_at_call 34; refine CallsIn.quiet_of_same (CallsIn.inRound l (callsIn_wide.2 (count_any x.1 _ hxs.lt))))
                    | (gi_at_call 38; refine CallsIn.quiet_of_same (CallsIn.inRound l (callsIn_wide.2 (cquiet_any B g (ldiff (bank g (sa, sb)) x.1) _ hl (sm_ldiff _ hbks) hsm (hgV.drewN _))))))))
                  refine wpQuietIn_nil ?_
                  rintro _ ⟨nq2, rfl⟩
                  have hagV : Ag (fun _ => False) V (V.drewN nq2) := (Ag.refl _ V).drewN nq2
                  replace hfixV := hfixV.ag hagV (fun _ h => h.elim) (fun _ h => h.elim)
                  replace hresV : Boxed (V.drewN nq2) _ _ _ := hresV
                  replace hokV : Boxed (V.drewN nq2) _ _ _ := hokV
                  replace hmapV : MapF (V.drewN nq2) _ _ := hmapV
                  replace hsbV : BoxN (V.drewN nq2) _ _ _ := hsbV
                  replace hbbV : Boxed (V.drewN nq2) _ _ _ := hbbV
                  replace hbxV0 : Boxed (V.drewN nq2) _ _ _ := hbxV
                  obtain ⟨qv, hqv1, hqv2, hqv3⟩ := hqueV
                  have hqvV := hqv2
                  obtain ⟨ql, hql⟩ : ∃ ql, Hid (ql = ((frmF g seats (sa, sb) frm pre).map (·.1)).drop (i + 1)) := ⟨_, rfl⟩
                  rw [← hql.out] at hqv2
                  replace hqv1 : Boxed (V.drewN nq2) _ _ _ := hqv1
                  replace hqv2 := hagV.qrow hqv2 (fun _ _ h => h)
                  replace cc : (V.drewN nq2).cell? _ = _ := cc
                  replace cs : (V.drewN nq2).cell? _ = _ := cs
                  replace cb : (V.drewN nq2).cell? _ = _ := cb
                  replace s0 : (V.drewN nq2).cell? _ = _ := s0
                  replace s1 : (V.drewN nq2).cell? _ = _ := s1
                  have cm := hfixV.led.cell
                  clear hgV
                  generalize hV2 : V.drewN nq2 = V2 at hagV hfixV hresV hokV hmapV hsbV hbbV hbxV0 hqv1 hqv2 cc cs cb s0 s1 cm ⊢
                  clear hV2
                  have g0 := hfixV.goal.cell 0
                  have g1 := hfixV.goal.cell 1
                  simp only [List.getElem?_toArray, List.getElem?_cons_zero, List.getElem?_cons_succ] at g0 g1
                  have hzV := hfixV.led.lt
                  have hag2 : Ag (fun _ => False) V2 (V2.alloc (.cells #[.int .i64 ((sa ^^^ x.1 : Nat) : Int), .bool (!sb)] 74)) := (Ag.refl _ V2).alloc _
                  cases hla : ledAt (frmF g seats (sa, sb) frm pre) (next (sa, sb) x.1) with
                  | some p =>
                    have HLA := Lib.hid hla
                    clear hla
                    gi_wp2_with (first
                      | (gi_at_lookup; refine wpListIn_look rfl (.tmp 78) (.tmp 79) true rfl _ _ (next (sa, sb) x.1) (.tuple #[.agg #[.int .i64 (p.1.1 : Int), .bool p.1.2, .int .i64 (p.2 : Int)], .bool true]) rfl rfl (hmapV.ag hag2 (fun h => h)) (by rw [HLA.out]; rfl) ?_))
                    exact ⟨KeepsFrom.of_ag ((hagV.trans hag2).alloc _) (fun _ _ _ _ _ h => h), KeepsBox.of_ag ((hagV.trans hag2).alloc _) id, PIn.skip hmidV0 HP.out ((hagV.trans hag2).alloc _) hqo hbxV (by unfold stp; rw [if_neg (fun h => by rw [HLA.out] at h; cases h.2.2)])⟩
                  | none =>
                    have HLA := Lib.hid hla
                    clear hla
                    obtain ⟨i74, hi74, hz0, hz1, hz2⟩ := info_parts info74
                    have hqlen : ((frmF g seats (sa, sb) frm pre).map (·.1)).length ≤ 3145728 := by
                      have h1 := HP.out.2.2.1
                      have h2 := hinv.bound
                      have h3 : (2 : Nat) ^ g.length ≤ 2 ^ 10 := Nat.pow_le_pow_right (by decide) hl
                      have h4 := hbks.lt
                      simp; omega
                    have hqlen2 : ql.length ≤ 3145728 := by rw [hql.out, List.length_drop]; omega
                    clear hqlen
                    cases sb
                    · -- from the left bank
                      gi_wp2_with (first
                        | (gi_at_lookup; refine wpListIn_look rfl (.tmp 78) (.tmp 79) true rfl _ _ (next (sa, false) x.1) (.tuple #[.agg #[.int .i64 0, .bool false, .int .i64 0], .bool false]) rfl rfl (hmapV.ag hag2 (fun h => h)) (by rw [HLA.out]; rfl) ?_)
                        | (gi_at_mapUpdate; refine wpListIn_store rfl (.tmp 84) (.tmp 85) (.tmp 88) rfl _ _ (next (sa, false) x.1) (sa, false) x.1 rfl rfl rfl (hmapV.ag (hag2.alloc _) (fun h => h)) HLA.out ?_; intro V3 hmap3 hgrow3
                           have hto3 : BoxN V3 V2.heap.size 74 #[.int .i64 ((sa ^^^ x.1 : Nat) : Int), .bool true] := ((BoxN.new rfl).alloc _).kept hgrow3 (fun e => by injection e with e; omega)
                           have t0 := hto3.cell 0
                           have t1 := hto3.cell 1
                           have hend3 := ((hfixV.goal.alloc (.cells #[.int .i64 ((sa ^^^ x.1 : Nat) : Int), .bool true] 74)).alloc (.cells #[.int .i64 0, .bool false, .int .i64 0] 76)).kept hgrow3 (fun e => by injection e with e; omega)
                           have e0 := hend3.cell 0
                           have e1 := hend3.cell 1
                           have hag3 : Ag (· = w.heap.size + 1 + 1 + 1 + 1 + 1 + 1) V2 V3 := ((hag2.alloc _).mono (fun _ h => h.elim)).grown hgrow3 (fun k e => .inr (by cases e; rfl))
                           have hqb3 := hag3.boxed hqv1 (by omega)
                           have qc3 := hqb3.cell
                           have qf3 := hqb3.frozen
                           have hqr3 := hag3.qrow hqv2 (fun k hk e => by have := (hqv2.lt k hk).1; omega)
                           simp only [List.getElem?_toArray, List.getElem?_cons_zero, List.getElem?_cons_succ] at t0 t1 e0 e1)
                        | (gi_at_builtin; go_must (refine wpListIn_append_q _ rfl (.tmp 111) (.tmp 113) 78 rfl (M + 1) 74 i74 _ 2 16 Try.underlying78 hi74 hz0 hz1 hz2 rfl (by decide) qv _ _ rfl (hqr3.alloc _) ⟨V3.heap.size, 0, none⟩ 1 1 [.int .i64 ((sa ^^^ x.1 : Nat) : Int), .bool true] rfl rfl (cells_new2 _ _ _ _) (by simp [Value.oneCell']) (by unfold maxLen; omega) (by omega) (by have := hag3.size; simp; omega) ?_); intro v4 V4 hrow4 hgrow4 hblk4; obtain ⟨p4, c4, hv4⟩ := hrow4.isSlice; subst hv4; go_must (have hqb4 := (hqb3.alloc (.cells #[.int .i64 ((sa ^^^ x.1 : Nat) : Int), .bool true] 74)).kept hgrow4 (hqr3.ne_box hqb3 (by decide)).symm); have qc4 := hqb4.cell; have qf4 := hqb4.frozen))
                      · have hxs0 : sa ^^^ x.1 = 0 := by assumption
                        have hng : next (sa, false) x.1 = goal := by unfold next goal; rw [hxs0]; rfl
                        have hla := HLA.out
                        rw [hng] at hla hmap3
                        obtain ⟨r, hr⟩ := frmF_prefix g seats (sa, false) pre frm
                        rw [hr] at hla hmap3
                        have hV3 := hag3.size
                        have hfM := hfix.hM
                        have hst3 := hag3.boxN hfixV.start (by omega)
                        have hled3 := hag3.boxed hfixV.led (by omega)
                        obtain ⟨i3, hi3, hy0, hy1, hy2⟩ := info_parts info3
                        have hdl := hinv.ds_le i hil
                        have hpw : (2 : Nat) ^ g.length ≤ 2 ^ 10 := Nat.pow_le_pow_right (by decide) hl
                        refine wpIn_loop_ghost_k (PG w V3 M seats g frm ds i (sa, false) x.1) (i + 2) ?_ ?_
                        · refine ⟨_, _, goal, [], planFr4_of _ rfl, rfl, (Ag.refl _ V3).alloc _, Nat.le_refl _, BoxN.new rfl, QRow.nil _ _ _ _, (fun e => by cases e), .inl ⟨rfl, rfl, rfl⟩⟩
                        · intro kk a5 V5 hI5 J5 K5 hJ5 hK5
                          obtain ⟨X, ov, ⟨ta, tb⟩, out, ⟨j5, hj5⟩, hd5, hag5, hX5, hxb5, hor5, hox5, hgh⟩ := hI5
                          obtain ⟨tm5, df5⟩ := a5
                          simp only at hj5 hd5
                          subst hj5
                          subst hd5
                          simp only [planFr4]
                          have hlo := hgh.len
                          have x0 := hxb5.cell 0
                          have x1 := hxb5.cell 1
                          have hst5 := hag5.boxN hst3 id
                          have st0 := hst5.cell 0
                          have st1 := hst5.cell 1
                          have ld5 := (hag5.boxed hled3 id).cell
                          have hmap5 := hmap3.ag hag5 id
                          have hXl := hxb5.lt
                          simp only [List.getElem?_toArray, List.getElem?_cons_zero, List.getElem?_cons_succ] at x0 x1 st0 st1
                          have GHH := Lib.hid hgh
                          clear hgh
                          by_cases hts : (ta, tb) = start g
                          · cases hts
                            obtain ⟨pv, cv, hov⟩ := hor5.isSlice
                            subst hov
                            gi_wp2_with (first
                              | (gi_at_call 46; go_must (refine (CallsIn.inRound l (callsIn_wide.2 (reverse_q V5 V3.heap.size (.slice pv out.length cv) (out.map fun (p : Nat) => (p : Int)) (by rw [List.length_map, List.map_map]; exact hor5) (by simp; unfold maxLen; omega)))).mono ?_); rintro e w7 ⟨rfl, hrowR, hagR⟩
                                 go_must (have hagW : Ag (fun _ => False) V3 w7 := hag5.trans' hagR (fun n e => .inl (hor5.lt n e).1))
                                 have hag7 := hag3.trans (hagW.mono (fun _ h => h.elim))
                                 go_must (have hres7 := hag7.boxed hresV (by omega))
                                 go_must (have hok7 := hag7.boxed hokV (by omega))
                                 have rc7 := hres7.cell
                                 have rf7 := hres7.frozen
                                 have oc7 := hok7.cell
                                 have of7 := hok7.frozen))
                            have hagZ : Ag (fun k => k = w.heap.size + 1 + 1 + 1 + 1 + 1 + 1 ∨ k = w.heap.size + 1 + 1 ∨ k = w.heap.size + 1 + 1 + 1) V2 ((w7.setCell ⟨w.heap.size + 1 + 1, 0, none⟩ (.slice pv out.length cv)).setCell ⟨w.heap.size + 1 + 1 + 1, 0, none⟩ (.bool true)) := ((hag7.mono (fun k e => .inl e)).set _ _ (.inr (.inr (.inl rfl)))).set _ _ (.inr (.inr (.inr rfl)))
                            have hrowR' : QRow w7 V3.heap.size 3 1 (.slice pv out.length cv) out.reverse.length (out.reverse.map fun (p : Nat) => Value.int .i64 (p : Int)) := by
                              have h9 := hrowR
                              rw [List.length_map, ← List.map_reverse, List.map_map] at h9
                              rw [List.length_reverse]; exact h9
                            have hfin := GHH.out.stop hinv hkey hng hst
                            refine ⟨KeepsFrom.of_ag ((hagV.mono (fun _ h => h.elim)).trans hagZ) (fun k o hk ho hc e => by have hk9 : W2.heap.size + 1 ≤ k := (by simpa using hk); (rcases e with e | e | e <;> omega)), rfl, hagZ.below hfixV.below hfixV.below.size (fun k hk e => by rcases e with e | e | e <;> omega),
                              ⟨hfixV.marks.1, fun D hD => ⟨(hfixV.marks.2 D hD).1, hagZ.obj (hfixV.marks.2 D hD).2 (fun e => by have := (hfixV.marks.2 D hD).1; rcases e with e | e | e <;> omega)⟩⟩, (.slice pv out.length cv), (Boxed.set (.slice pv out.length cv) hres7).other (by omega) _, Boxed.set (.bool true) (hok7.other (by omega) _), fun hin => .inr ⟨rfl, out.reverse, ?_, hfin.1 ⟨hin x (by simp), h1, h2, hqo⟩, fun qs hqs => by rw [List.length_reverse]; exact hfin.2 qs hqs⟩⟩
                            exact ((hrowR'.other (a := ⟨w.heap.size + 1 + 1, 0, none⟩) (fun k hk => by have := (hrowR'.lt k hk).1; show k ≠ w.heap.size + 1 + 1; omega) _).other (a := ⟨w.heap.size + 1 + 1 + 1, 0, none⟩) (fun k hk => by have := (hrowR'.lt k hk).1; show k ≠ w.heap.size + 1 + 1 + 1; omega) _).mono (by omega)
                          · obtain ⟨k6, ⟨t6a, t6b⟩, p6, hl6, hk6, hgh6⟩ := GHH.out.step hinv hkey hng hts r hla
                            have HL6 := Lib.hid hl6
                            clear hl6
                            by_cases hta : ta = full g.length
                            · subst hta
                              cases tb
                              · exact absurd rfl hts
                              · gi_wp2_with (first
                                  | (gi_at_lookup; refine wpListIn_look rfl (.tmp 101) (.tmp 102) false rfl _ _ (full g.length, true) (.agg #[.int .i64 (t6a : Int), .bool t6b, .int .i64 (p6 : Int)]) rfl rfl hmap5 (by rw [HL6.out]; rfl) ?_)
                                  | (gi_at_lookup; refine wpListIn_look rfl (.tmp 96) (.tmp 97) false rfl _ _ (full g.length, true) (.agg #[.int .i64 (t6a : Int), .bool t6b, .int .i64 (p6 : Int)]) rfl rfl (hmap6.ag ((Ag.refl (fun _ => False) V6).alloc _) id) (by rw [HL6.out]; rfl) ?_)
                                  | (gi_at_builtin; go_must (refine wpListIn_append_q _ rfl (.tmp 100) (.tmp 105) 25 rfl V3.heap.size 3 i3 _ 1 8 Try.underlying25 hi3 hy0 hy1 hy2 rfl (by decide) ov _ _ rfl (hor5.alloc _) ⟨V5.heap.size, 0, none⟩ 1 1 [.int .i64 (p6 : Int)] rfl rfl (cells_new1 _ _ _) (by simp [Value.oneCell']) (by unfold maxLen; omega) (by omega) (by have := hag5.size; simp; omega) ?_); intro v6 V6 hrow6 hgrow6 hblk6
                                     obtain ⟨pp6, cc6, hv6⟩ := hrow6.isSlice
                                     subst hv6
                                     go_must (have hxb6 := (hxb5.alloc (.cells #[.int .i64 (p6 : Int)] 3)).kept hgrow6 (fun e => hox5 e.symm))
                                     have x60 := hxb6.cell 0
                                     have x61 := hxb6.cell 1
                                     simp only [List.getElem?_toArray, List.getElem?_cons_zero, List.getElem?_cons_succ] at x60 x61
                                     go_must (have hag6 : Ag (fun _ => False) V3 V6 := (hag5.alloc _).grown hgrow6 (fun k e => .inl (hor5.lt k e).1))
                                     have hmap6 := hmap3.ag hag6 id
                                     have hXl6 := hxb6.lt
                                     have ld6 := (hag6.boxed hled3 id).cell))
                                refine ⟨k6, hk6, hJ5 _ _ _ ⟨V6.heap.size, _, (t6a, t6b), out ++ [p6], planFr4_of _ rfl, rfl, hag6.alloc _, hag6.size, BoxN.new rfl, (by rw [List.map_append, List.length_append]; exact hrow6.alloc _), (fun e => by have := (hrow6.lt _ e).2; omega), hgh6⟩⟩
                            · gi_wp2_with (first
                                | (gi_at_lookup; refine wpListIn_look rfl (.tmp 101) (.tmp 102) false rfl _ _ (ta, tb) (.agg #[.int .i64 (t6a : Int), .bool t6b, .int .i64 (p6 : Int)]) rfl rfl hmap5 (by rw [HL6.out]; rfl) ?_)
                                | (gi_at_lookup; refine wpListIn_look rfl (.tmp 96) (.tmp 97) false rfl _ _ (ta, tb) (.agg #[.int .i64 (t6a : Int), .bool t6b, .int .i64 (p6 : Int)]) rfl rfl (hmap6.ag ((Ag.refl (fun _ => False) V6).alloc _) id) (by rw [HL6.out]; rfl) ?_)
                                | (gi_at_builtin; go_must (refine wpListIn_append_q _ rfl (.tmp 100) (.tmp 105) 25 rfl V3.heap.size 3 i3 _ 1 8 Try.underlying25 hi3 hy0 hy1 hy2 rfl (by decide) ov _ _ rfl (hor5.alloc _) ⟨V5.heap.size, 0, none⟩ 1 1 [.int .i64 (p6 : Int)] rfl rfl (cells_new1 _ _ _) (by simp [Value.oneCell']) (by unfold maxLen; omega) (by omega) (by have := hag5.size; simp; omega) ?_); intro v6 V6 hrow6 hgrow6 hblk6
                                   obtain ⟨pp6, cc6, hv6⟩ := hrow6.isSlice
                                   subst hv6
                                   go_must (have hxb6 := (hxb5.alloc (.cells #[.int .i64 (p6 : Int)] 3)).kept hgrow6 (fun e => hox5 e.symm))
                                   have x60 := hxb6.cell 0
                                   have x61 := hxb6.cell 1
                                   simp only [List.getElem?_toArray, List.getElem?_cons_zero, List.getElem?_cons_succ] at x60 x61
                                   go_must (have hag6 : Ag (fun _ => False) V3 V6 := (hag5.alloc _).grown hgrow6 (fun k e => .inl (hor5.lt k e).1))
                                   have hmap6 := hmap3.ag hag6 id
                                   have hXl6 := hxb6.lt
                                   have ld6 := (hag6.boxed hled3 id).cell))
                              refine ⟨k6, hk6, hJ5 _ _ _ ⟨V6.heap.size, _, (t6a, t6b), out ++ [p6], planFr4_of _ rfl, rfl, hag6.alloc _, hag6.size, BoxN.new rfl, (by rw [List.map_append, List.length_append]; exact hrow6.alloc _), (fun e => by have := (hrow6.lt _ e).2; omega), hgh6⟩⟩
                      · have hV3 := hag3.size
                        have hag34 : Ag (fun k => k = M + 1 + 1 ∨ qv.ownBlock = some k) V3 (V4.setCell ⟨M + 1 + 1, 0, none⟩ (.slice p4 (ql.length + 1) c4)) := (((Ag.refl _ V3).alloc _).grown hgrow4 (fun k e => .inr (.inr e))).set _ _ (.inr (.inl rfl))
                        have hagN : Ag (fun k => k = w.heap.size + 1 + 1 + 1 + 1 + 1 + 1 ∨ k = M + 1 + 1 ∨ qv.ownBlock = some k) V2 (V4.setCell ⟨M + 1 + 1, 0, none⟩ (.slice p4 (ql.length + 1) c4)) := (hag3.mono (fun k e => .inl e)).trans (hag34.mono (fun k e => .inr e))
                        have hagM := (hagV.mono (ex' := fun k => k = w.heap.size + 1 + 1 + 1 + 1 + 1 + 1 ∨ k = M + 1 + 1 ∨ qv.ownBlock = some k) (fun _ h => h.elim)).trans hagN
                        have hfM := hfix.hM
                        refine ⟨KeepsFrom.of_ag hagM (fun k o hk ho hc e => ?_), KeepsBox.of_ag hagM (fun e => ?_), PIn.put hfixV hresV hokV hsbV hbbV hsV hbxV0 hW2 hqv2 hqv3 HP.out hil hqo ⟨h1, h2, HLA.out⟩ (fun e => by have h9 := congrArg Prod.fst e; exact absurd h9 (by assumption)) hagN (hmap3.ag hag34 (fun e => ?_)) (Boxed.set _ hqb4) (by rw [← hql.out]; exact hrow4.other (a := ⟨M + 1 + 1, 0, none⟩) (fun k hk e => hrow4.ne_box hqb4 (by decide) (hk.trans (congrArg some e))) _) (fun k hk => (hblk4 k hk).imp id (fun h => by have : (V3.alloc (.cells #[.int .i64 ((sa ^^^ x.1 : Nat) : Int), .bool (!false)] 74)).heap.size ≤ k := h; simp at this; omega))⟩
                        · have hk9 : W2.heap.size + 1 ≤ k := by simpa using hk
                          rcases e with e | e | e
                          · omega
                          · omega
                          · obtain ⟨cur, hcur⟩ := (show QRow V (M + 1) 74 2 qv _ _ from hqvV).cells k e
                            rw [ho] at hcur; cases hcur; cases hc
                        · rcases e with e | e | e
                          · omega
                          · omega
                          · exact hqv2.ne_box hbxV0 (by decide) e
                        · rcases e with e | e
                          · omega
                          · have := (hqv2.lt _ e).1; omega
                    · -- from the right bank
                      gi_wp2_with (first
                        | (gi_at_lookup; refine wpListIn_look rfl (.tmp 78) (.tmp 79) true rfl _ _ (next (sa, true) x.1) (.tuple #[.agg #[.int .i64 0, .bool false, .int .i64 0], .bool false]) rfl rfl (hmapV.ag hag2 (fun h => h)) (by rw [HLA.out]; rfl) ?_)
                        | (gi_at_mapUpdate; refine wpListIn_store rfl (.tmp 84) (.tmp 85) (.tmp 88) rfl _ _ (next (sa, true) x.1) (sa, true) x.1 rfl rfl rfl (hmapV.ag (hag2.alloc _) (fun h => h)) HLA.out ?_; intro V3 hmap3 hgrow3
                           have hto3 : BoxN V3 V2.heap.size 74 #[.int .i64 ((sa ^^^ x.1 : Nat) : Int), .bool false] := ((BoxN.new rfl).alloc _).kept hgrow3 (fun e => by injection e with e; omega)
                           have t0 := hto3.cell 0
                           have t1 := hto3.cell 1
                           have hend3 := ((hfixV.goal.alloc (.cells #[.int .i64 ((sa ^^^ x.1 : Nat) : Int), .bool false] 74)).alloc (.cells #[.int .i64 0, .bool false, .int .i64 0] 76)).kept hgrow3 (fun e => by injection e with e; omega)
                           have e0 := hend3.cell 0
                           have e1 := hend3.cell 1
                           have hag3 : Ag (· = w.heap.size + 1 + 1 + 1 + 1 + 1 + 1) V2 V3 := ((hag2.alloc _).mono (fun _ h => h.elim)).grown hgrow3 (fun k e => .inr (by cases e; rfl))
                           have hqb3 := hag3.boxed hqv1 (by omega)
                           have qc3 := hqb3.cell
                           have qf3 := hqb3.frozen
                           have hqr3 := hag3.qrow hqv2 (fun k hk e => by have := (hqv2.lt k hk).1; omega)
                           simp only [List.getElem?_toArray, List.getElem?_cons_zero, List.getElem?_cons_succ] at t0 t1 e0 e1)
                        | (gi_at_builtin; go_must (refine wpListIn_append_q _ rfl (.tmp 111) (.tmp 113) 78 rfl (M + 1) 74 i74 _ 2 16 Try.underlying78 hi74 hz0 hz1 hz2 rfl (by decide) qv _ _ rfl (hqr3.alloc _) ⟨V3.heap.size, 0, none⟩ 1 1 [.int .i64 ((sa ^^^ x.1 : Nat) : Int), .bool false] rfl rfl (cells_new2 _ _ _ _) (by simp [Value.oneCell']) (by unfold maxLen; omega) (by omega) (by have := hag3.size; simp; omega) ?_); intro v4 V4 hrow4 hgrow4 hblk4; obtain ⟨p4, c4, hv4⟩ := hrow4.isSlice; subst hv4; go_must (have hqb4 := (hqb3.alloc (.cells #[.int .i64 ((sa ^^^ x.1 : Nat) : Int), .bool false] 74)).kept hgrow4 (hqr3.ne_box hqb3 (by decide)).symm); have qc4 := hqb4.cell; have qf4 := hqb4.frozen))
                      · have hV3 := hag3.size
                        have hag34 : Ag (fun k => k = M + 1 + 1 ∨ qv.ownBlock = some k) V3 (V4.setCell ⟨M + 1 + 1, 0, none⟩ (.slice p4 (ql.length + 1) c4)) := (((Ag.refl _ V3).alloc _).grown hgrow4 (fun k e => .inr (.inr e))).set _ _ (.inr (.inl rfl))
                        have hagN : Ag (fun k => k = w.heap.size + 1 + 1 + 1 + 1 + 1 + 1 ∨ k = M + 1 + 1 ∨ qv.ownBlock = some k) V2 (V4.setCell ⟨M + 1 + 1, 0, none⟩ (.slice p4 (ql.length + 1) c4)) := (hag3.mono (fun k e => .inl e)).trans (hag34.mono (fun k e => .inr e))
                        have hagM := (hagV.mono (ex' := fun k => k = w.heap.size + 1 + 1 + 1 + 1 + 1 + 1 ∨ k = M + 1 + 1 ∨ qv.ownBlock = some k) (fun _ h => h.elim)).trans hagN
                        have hfM := hfix.hM
                        refine ⟨KeepsFrom.of_ag hagM (fun k o hk ho hc e => ?_), KeepsBox.of_ag hagM (fun e => ?_), PIn.put hfixV hresV hokV hsbV hbbV hsV hbxV0 hW2 hqv2 hqv3 HP.out hil hqo ⟨h1, h2, HLA.out⟩ (fun e => Bool.noConfusion (show (false : Bool) = true from congrArg Prod.snd e)) hagN (hmap3.ag hag34 (fun e => ?_)) (Boxed.set _ hqb4) (by rw [← hql.out]; exact hrow4.other (a := ⟨M + 1 + 1, 0, none⟩) (fun k hk e => hrow4.ne_box hqb4 (by decide) (hk.trans (congrArg some e))) _) (fun k hk => (hblk4 k hk).imp id (fun h => by have : (V3.alloc (.cells #[.int .i64 ((sa ^^^ x.1 : Nat) : Int), .bool (!true)] 74)).heap.size ≤ k := h; simp at this; omega))⟩
                        · have hk9 : W2.heap.size + 1 ≤ k := by simpa using hk
                          rcases e with e | e | e
                          · omega
                          · omega
                          · obtain ⟨cur, hcur⟩ := (show QRow V (M + 1) 74 2 qv _ _ from hqvV).cells k e
                            rw [ho] at hcur; cases hcur; cases hc
                        · rcases e with e | e | e
                          · omega
                          · omega
                          · exact hqv2.ne_box hbxV0 (by decide) e
                        · rcases e with e | e
                          · omega
                          · have := (hqv2.lt _ e).1; omega
                | false =>
                  gi_wp2
                  refine quietR_lit (by kernel_rfl) (by kernel_rfl) (by kernel_rfl) ?_
                  repeat (gi_big_quiet_step ((first
                    | (gi_at_call 34; refine CallsIn.quiet_of_same (CallsIn.inRound l (callsIn_wide.2 (count_any x.1 _ hxs.lt))))
                    | (gi_at_call 38; refine CallsIn.quiet_of_same (CallsIn.inRound l (callsIn_wide.2 (cquiet_any B g (ldiff (bank g (sa, sb)) x.1) _ hl (sm_ldiff _ hbks) hsm (hgV.drewN _))))))))
                  refine wpQuietIn_nil ?_
                  rintro _ ⟨nq2, rfl⟩
                  gi_wp2
                  exact ⟨KeepsFrom.of_ag ((Ag.refl (fun _ => False) V).drewN nq2) (fun _ _ _ _ _ h => h), KeepsBox.of_ag ((Ag.refl (fun _ => False) V).drewN nq2) id, PIn.skip hmidV0 HP.out ((Ag.refl _ V).drewN nq2) hqo hbxV (by unfold stp; rw [if_neg (fun h => by rw [h2] at h; cases h.2.1)])⟩
              · have hd1 : decide (seats < size x.1) = true := decide_eq_true (by omega)
                gi_wp2
                refine quietR_lit (by kernel_rfl) (by kernel_rfl) (by kernel_rfl) ?_
                repeat (gi_big_quiet_step ((first
                  | (gi_at_call 34; refine CallsIn.quiet_of_same (CallsIn.inRound l (callsIn_wide.2 (count_any x.1 _ hxs.lt)))))))
                refine wpQuietIn_nil ?_
                rintro _ ⟨nq2, rfl⟩
                gi_wp2
                exact ⟨KeepsFrom.of_ag ((Ag.refl (fun _ => False) V).drewN nq2) (fun _ _ _ _ _ h => h), KeepsBox.of_ag ((Ag.refl (fun _ => False) V).drewN nq2) id, PIn.skip hmidV0 HP.out ((Ag.refl _ V).drewN nq2) hqo hbxV (by unfold stp; rw [if_neg (fun h => h1 h.1)])⟩
            case done =>
              intro D xs V hD hS hI hVD
              have hD9 : W2.heap.size + 1 ≤ D := by simpa using hD
              have hin : ∀ y ∈ xs, Within y.1 (bank g (sa, sb)) := by rw [hS]; exact subsLt_toS hbks
              obtain ⟨ds', hinv'⟩ := Mid.finish hinv hkey (hI.2.1.1 hin) (fun p hL => List.mem_map.2 ⟨toS p, by rw [hS]; exact mem_map_toS hbks hL.1, toS_val (Nat.lt_of_le_of_lt hL.1.le hbks)⟩) hI.2.1.2.1
              obtain ⟨qv, hqv1, hqv2, _⟩ := hI.1.que
              refine hK _ _ ⟨k - 1, by omega, hJ _ _ _ ⟨D :: Ds, _, ds', i + 1, planFr_of _ rfl, rfl, { hI.1.fix with marks := ⟨List.nodup_cons.2 ⟨fun h => by have := hDlt D h; omega, hI.1.fix.marks.1⟩, fun D' hD' => ?_⟩ }, hI.1.res, hI.1.ok, hI.1.map, ⟨qv, hqv1, hqv2⟩, hinv', by omega⟩⟩
              rcases List.mem_cons.1 hD' with rfl | hD'
              · exact ⟨by omega, hVD⟩
              · exact hI.1.fix.marks.2 D' hD'
            case stop =>
              intro D c pre V hD hSp hIx hVD
              have hD9 : W2.heap.size + 1 ≤ D := by simpa using hD
              obtain ⟨rfl, hB9, hm9, v9, h91, h92, h93⟩ := hIx
              obtain ⟨s9, hs9, hpre9⟩ := hSp
              gi_wp2
              refine plan_leave (Ds := D :: Ds) (v := v9) (ok := true) (M := M) ⟨List.nodup_cons.2 ⟨fun h => by have := hDlt D h; omega, hm9.1⟩, fun D' hD' => ?_⟩ (by omega) hB9 h91 h92 (h93 (by rw [hpre9]; exact subsLt_toS hbks)) rfl rfl
              rcases List.mem_cons.1 hD' with rfl | hD'
              · exact ⟨by omega, hVD⟩
              · exact hm9.2 D' hD'
        · cases sb
          · gi_wp2
            have hag : Ag (· = M + 1 + 1) W (((W.setCell ⟨M + 1 + 1, 0, none⟩ (.slice (some qa) rest.length (cap - 1))).alloc (.cells #[.int .i64 (sa : Int), .bool false] 74)).alloc (.cells #[.int .i64 (sa : Int)] 3)) :=
              (((Ag.refl (· = M + 1 + 1) W).set _ _ (.inr rfl)).alloc _).alloc _
            refine ⟨planFr2_of _ rfl, rfl, hfix.ag hag (fun k e => .inl (by omega)) (fun k e hD => by have := (hfix.marks.2 k hD).1; omega), hag.boxed hres (by omega), hag.boxed hok (by omega), hmapW.ag hag (by omega), ⟨_, ((Boxed.set _ hqb).alloc _).alloc _, hag.qrow htail (fun k hk e => htail.ne_box hqb (by decide) (by rw [hk, e])), ?_⟩, (BoxN.new (by simp)).alloc _, boxed_at (by simp), by omega⟩
            simp only [Value.ownBlock, HQA.out]
            intro e; cases e; omega
          · gi_upto_region 9 with (fail)
            have hag0 : Ag (· = M + 1 + 1) W (((W.setCell ⟨M + 1 + 1, 0, none⟩ (.slice (some qa) rest.length (cap - 1))).alloc (.cells #[.int .i64 (sa : Int), .bool true] 74)).alloc (.cells #[.int .i64 (sa : Int)] 3)) :=
              (((Ag.refl (· = M + 1 + 1) W).set _ _ (.inr rfl)).alloc _).alloc _
            have hgW0 := (hg.below (hag0.below hfix.below hfix.below.size (fun k hk e => by omega)) hBlt).n
            have hqb9 : Boxed (((W.setCell ⟨M + 1 + 1, 0, none⟩ (.slice (some qa) rest.length (cap - 1))).alloc (.cells #[.int .i64 (sa : Int), .bool true] 74)).alloc (.cells #[.int .i64 (sa : Int)] 3)) (M + 1 + 1) 78 (.slice (some qa) rest.length (cap - 1)) := ((Boxed.set _ hqb).alloc _).alloc _
            have hsb9 : BoxN (((W.setCell ⟨M + 1 + 1, 0, none⟩ (.slice (some qa) rest.length (cap - 1))).alloc (.cells #[.int .i64 (sa : Int), .bool true] 74)).alloc (.cells #[.int .i64 (sa : Int)] 3)) W.heap.size 74 #[.int .i64 (sa : Int), .bool true] := (BoxN.new (by simp)).alloc _
            have hbb9 : Boxed (((W.setCell ⟨M + 1 + 1, 0, none⟩ (.slice (some qa) rest.length (cap - 1))).alloc (.cells #[.int .i64 (sa : Int), .bool true] 74)).alloc (.cells #[.int .i64 (sa : Int)] 3)) (W.heap.size + 1) 3 (.int .i64 (sa : Int)) := boxed_at (by simp)
            refine wpIn_wide.2 ?_
            generalize (((W.setCell ⟨M + 1 + 1, 0, none⟩ (.slice (some qa) rest.length (cap - 1))).alloc (.cells #[.int .i64 (sa : Int), .bool true] 74)).alloc (.cells #[.int .i64 (sa : Int)] 3)) = X at hag0 hgW0 hqb9 hsb9 hbb9 ⊢
            refine wp_region_still_tail 5 (by kernel_rfl) (by kernel_rfl) ?_
            change wpStill _ _ (World.drew _) (fun a' => wpList _ _ _ _ a' (World.drew _)) _ _
            simp only [List.take_succ_cons, List.take_zero, List.drop_succ_cons, List.drop_zero]
            have x0 : X.drew.cell? ⟨w.heap.size, 0, none⟩ = some (.pointer (some ⟨B, 0, none⟩)) := (hag0.boxed hfix.c (by omega)).cell
            have x1 : X.drew.cell? ⟨W.heap.size, 0, none⟩ = some (.int .i64 (sa : Int)) := by rw [show X.drew.cell? ⟨W.heap.size, 0, none⟩ = X.cell? ⟨W.heap.size, 0, none⟩ from rfl, hsb9.cell]; rfl
            have x2 : X.drew.cell? ⟨W.heap.size + 1, 0, none⟩ = some (.int .i64 (sa : Int)) := hbb9.cell
            have x3 : X.drew.frozen? ⟨W.heap.size + 1, 0, none⟩ = false := hbb9.frozen
            have x4 : X.drew.cell? ⟨B, 0, none⟩ = some (.int .i64 (g.length : Int)) := hgW0
            still_step
            still_call (call_any B g.length _ (by omega) x4)
            repeat still_step
            refine wpStill_nil ?_
            go_wp2
            have hag9 : Ag (· = M + 1 + 1) W (X.setCell ⟨W.heap.size + 1, 0, none⟩ (.int .i64 ((ldiff (full g.length) sa : Nat) : Int))).drew := (hag0.set _ _ (.inl (by show W.heap.size ≤ W.heap.size + 1; omega))).drewN 1
            refine ⟨planFr2_of _ rfl, rfl, hfix.ag hag9 (fun k e => .inl (by omega)) (fun k e hD => by have := (hfix.marks.2 k hD).1; omega), hag9.boxed hres (by omega), hag9.boxed hok (by omega), hmapW.ag hag9 (by omega), ⟨_, hqb9.other (by omega) _, hag9.qrow htail (fun k hk e => htail.ne_box hqb (by decide) (by rw [hk, e])), ?_⟩, hsb9.other (by show W.heap.size ≠ W.heap.size + 1; omega) _, Boxed.set _ hbb9, by omega⟩
            simp only [Value.ownBlock, HQA.out]
            intro e; cases e; omega
      · have hie : i = frm.length := by have := hinv.le; omega
        have hl0 : ((frm.map (·.1)).drop i).length = 0 := by simp; omega
        have hqc := hqb.cell
        have hrc := hres.cell
        have hrf := hres.frozen
        have hoc := hok.cell
        have hof := hok.frozen
        have hend : ∀ ps, ¬ isPath g seats (start g) ps goal := by
          have h2 := hinv
          rw [hie] at h2
          exact h2.none
        rcases hqr.2 with ⟨rfl, _⟩ | ⟨q, o, cap, cur, rfl, _⟩
        all_goals
          try rw [hl0] at hqc
          gi_wp2
          refine plan_leave (v := .slice none 0 0) (ok := false) (M := M) ⟨hfix.marks.1, fun D hD => ⟨(hfix.marks.2 D hD).1, ?_⟩⟩ (by omega) ((hfix.below.setCell (p := ⟨w.heap.size + 1 + 1, 0, none⟩) (by show w.heap.size ≤ w.heap.size + 1 + 1; omega) _).setCell (p := ⟨w.heap.size + 1 + 1 + 1, 0, none⟩) (by show w.heap.size ≤ w.heap.size + 1 + 1 + 1; omega) _)
            ((Boxed.set (.slice none 0 0) hres).other (by omega) _) (Boxed.set (.bool false) (hok.other (by omega) _)) (.inl ⟨rfl, rfl, hend⟩) rfl rfl
          exact ((KeepsOthers.setCell _ _ _).trans (KeepsOthers.setCell _ _ _)).same D _ (hfix.marks.2 D hD).2 rfl
end Go.Proofs.Ytfbobojpocnfeaa
