/- The law's lists filled up: the walk. HueLists: the walk of the law. -/
import Derived.Test.YtpknnjcbcndbbaaDoorG1201
import Derived.Test.YtpknnjcbcndbbaaDoorH01
set_option linter.unusedVariables false
set_option linter.unusedSimpArgs false
namespace Go.Proofs.YtpknnjcbcndbbaaDoor
open Go.RowKit Go.Shelf

theorem mod64 (z : Int) : ∃ x : Nat, x < 64 ∧ wrap64 ((IntKind.u64.wrap z).tmod 64) = (x : Int) := by
  have h0 : 0 ≤ IntKind.u64.wrap z := by rw [IntKind.wrap_u64]; omega
  rw [Int.tmod_eq_emod_of_nonneg h0]
  refine ⟨(IntKind.u64.wrap z % 64).toNat, by omega, ?_⟩
  unfold wrap64
  omega
theorem QRow.ne_boxN {W : World} {base : Nat} {e : TypeId} {size : Nat} {v : Value} {n : Nat} {xs : List Value} (hq : QRow W base e size v n xs) {b : Nat} {t : TypeId} {vs : Array Value} (hb : BoxN W b t vs) (hte : t ≠ e) : some b ≠ v.ownBlock := fun hv => by
  rcases hq.2 with ⟨rfl, _⟩ | ⟨g, o, cap, cur, rfl, _, e3, _⟩
  · cases hv
  · cases hv
    unfold BoxN at hb
    rw [hb] at e3
    cases e3
    exact hte rfl
theorem BoolRow.kept {W W' : World} {B s base : Nat} {v : Value} {n : Nat} {xs : List Value} (h : BoolRow W B s) (hq : QRow W base 3 1 v n xs) (hg : W.grownBy W' v.ownBlock) : BoolRow W' B s := by
  obtain ⟨vs, h1, h2⟩ := h
  exact ⟨vs, h1.kept hg (hq.ne_boxN h1 (by decide)), h2⟩
theorem BoolRow.alloc {W : World} {B s : Nat} (h : BoolRow W B s) (o : Obj) : BoolRow (W.alloc o) B s := by
  obtain ⟨vs, h1, h2⟩ := h
  exact ⟨vs, h1.alloc o, h2⟩
theorem iv_zl (s : Nat) : iv (bl s 64) = ivI (zz (zl s)) (zl s).length := by
  refine List.ext_getElem? fun i => ?_
  by_cases hi : i < (zl s).length
  · obtain ⟨h, e⟩ := zl_zz hi
    rw [ivI_get _ _ i hi, e]
    unfold iv
    rw [List.getElem?_map, List.getElem?_eq_getElem h]; rfl
  · rw [List.getElem?_eq_none (by rw [iv_length]; rw [zl_len] at hi; unfold cnt at hi; omega), List.getElem?_eq_none (by rw [ivI_len]; omega)]
set_option maxRecDepth 10000 in
theorem lit64 : (#[Value.bool false, Value.bool false, Value.bool false, Value.bool false, Value.bool false, Value.bool false, Value.bool false, Value.bool false, Value.bool false, Value.bool false, Value.bool false, Value.bool false, Value.bool false, Value.bool false, Value.bool false, Value.bool false, Value.bool false, Value.bool false, Value.bool false, Value.bool false, Value.bool false, Value.bool false, Value.bool false, Value.bool false, Value.bool false, Value.bool false, Value.bool false, Value.bool false, Value.bool false, Value.bool false, Value.bool false, Value.bool false, Value.bool false, Value.bool false, Value.bool false, Value.bool false, Value.bool false, Value.bool false, Value.bool false, Value.bool false, Value.bool false, Value.bool false, Value.bool false, Value.bool false, Value.bool false, Value.bool false, Value.bool false, Value.bool false, Value.bool false, Value.bool false, Value.bool false, Value.bool false, Value.bool false, Value.bool false, Value.bool false, Value.bool false, Value.bool false, Value.bool false, Value.bool false, Value.bool false, Value.bool false, Value.bool false, Value.bool false, Value.bool false] : Array Value) = Array.replicate 64 (Value.bool false) := rfl
theorem bool_new (W : World) : BoolRow (W.alloc (.cells #[Value.bool false, Value.bool false, Value.bool false, Value.bool false, Value.bool false, Value.bool false, Value.bool false, Value.bool false, Value.bool false, Value.bool false, Value.bool false, Value.bool false, Value.bool false, Value.bool false, Value.bool false, Value.bool false, Value.bool false, Value.bool false, Value.bool false, Value.bool false, Value.bool false, Value.bool false, Value.bool false, Value.bool false, Value.bool false, Value.bool false, Value.bool false, Value.bool false, Value.bool false, Value.bool false, Value.bool false, Value.bool false, Value.bool false, Value.bool false, Value.bool false, Value.bool false, Value.bool false, Value.bool false, Value.bool false, Value.bool false, Value.bool false, Value.bool false, Value.bool false, Value.bool false, Value.bool false, Value.bool false, Value.bool false, Value.bool false, Value.bool false, Value.bool false, Value.bool false, Value.bool false, Value.bool false, Value.bool false, Value.bool false, Value.bool false, Value.bool false, Value.bool false, Value.bool false, Value.bool false, Value.bool false, Value.bool false, Value.bool false, Value.bool false] 106)) W.heap.size 0 := by
  refine ⟨_, BoxN.new rfl, by rw [lit64]; simp, fun j hj => ?_⟩
  rw [lit64, Array.getElem?_replicate, if_pos hj, Nat.zero_testBit]
set_option maxRecDepth 100000 in
set_option maxHeartbeats 4000000 in
theorem filled_any (a : Option Addr) (cap m d : Nat) (xs : List (List Int)) (w : World) (h : ListsIn w a cap xs) (hm : m ≤ 1099511627776) (hd : d ≤ 16) :
    Calls Tryd.prog 42 #[.slice a xs.length cap, .int .i64 (m : Int), .int .i64 (d : Int)] w fun e w' => (∃ p c ls, e = .returned (.slice p m c) ∧ (∀ i, (ls i).length ≤ 64) ∧ (∀ i, i < m → Rise (ls i) ∧ d ≤ (ls i).length) ∧ LRow w' w.heap.size (.slice p m c) m ls) ∧ Below w.heap.size w w' := by
  obtain ⟨i0, hi0, hz0, hz1, hz2⟩ := info_parts info3
  obtain ⟨i1, hi1, hy0, hy1, hy2⟩ := info_parts info25
  have H := Lib.hid h
  have hfit := h.fits
  have hcm := h.capm
  unfold maxLen at hcm
  clear h
  obtain ⟨len, HL⟩ : ∃ len, Hid (xs.length = len) := ⟨_, rfl⟩
  rw [HL.out] at hfit ⊢
  go_enter Tryd.func42, Tryd.ntmps42
  go_upto_region 3 with (fail)
  go_loopw [7, 8] (fun s7 s8 wr => ∃ (i : Nat) (ls : Nat → List Int), i ≤ m ∧ s8 = .int .i64 (i : Int) ∧ Hid (∀ i, (ls i).length ≤ 64) ∧ Hid (∀ i', i' < i → Rise (ls i') ∧ d ≤ (ls i').length) ∧ Hid (LRow wr w.heap.size s7 i ls) ∧ Hid (Below w.heap.size w wr)) (fun _ s8 _ => m - (intOf s8).toNat)
  case atStart => exact ⟨0, fun _ => [], by omega, rfl, (fun _ => by simp), (fun i hi => by omega), LRow.nil _ _ _, Below.refl _ _⟩
  case round =>
    obtain ⟨i, ls, hi, rfl, hl7, hri, hR, hB⟩ := hrel
    obtain ⟨p3, c3, rfl⟩ := hR.out.isSlice
    have hsz := hB.out.size
    by_cases him : i < m
    · have g1 : (i : Int) < (m : Int) := by omega
      have g0 : (0 : Int) ≤ (i : Int) := by omega
      go_upto_region 6 with (fail)
      obtain ⟨B, hBd⟩ : ∃ B, Hid (B = wr.heap.size) := ⟨_, rfl⟩
      have hV0 := bool_new wr
      have hVB : Below wr.heap.size wr (wr.alloc (.cells #[Value.bool false, Value.bool false, Value.bool false, Value.bool false, Value.bool false, Value.bool false, Value.bool false, Value.bool false, Value.bool false, Value.bool false, Value.bool false, Value.bool false, Value.bool false, Value.bool false, Value.bool false, Value.bool false, Value.bool false, Value.bool false, Value.bool false, Value.bool false, Value.bool false, Value.bool false, Value.bool false, Value.bool false, Value.bool false, Value.bool false, Value.bool false, Value.bool false, Value.bool false, Value.bool false, Value.bool false, Value.bool false, Value.bool false, Value.bool false, Value.bool false, Value.bool false, Value.bool false, Value.bool false, Value.bool false, Value.bool false, Value.bool false, Value.bool false, Value.bool false, Value.bool false, Value.bool false, Value.bool false, Value.bool false, Value.bool false, Value.bool false, Value.bool false, Value.bool false, Value.bool false, Value.bool false, Value.bool false, Value.bool false, Value.bool false, Value.bool false, Value.bool false, Value.bool false, Value.bool false, Value.bool false, Value.bool false, Value.bool false, Value.bool false] 106)) := (Below.refl _ _).alloc (Nat.le_refl _) _
      rw [← hBd.out] at hV0 ⊢
      generalize (wr.alloc (.cells #[Value.bool false, Value.bool false, Value.bool false, Value.bool false, Value.bool false, Value.bool false, Value.bool false, Value.bool false, Value.bool false, Value.bool false, Value.bool false, Value.bool false, Value.bool false, Value.bool false, Value.bool false, Value.bool false, Value.bool false, Value.bool false, Value.bool false, Value.bool false, Value.bool false, Value.bool false, Value.bool false, Value.bool false, Value.bool false, Value.bool false, Value.bool false, Value.bool false, Value.bool false, Value.bool false, Value.bool false, Value.bool false, Value.bool false, Value.bool false, Value.bool false, Value.bool false, Value.bool false, Value.bool false, Value.bool false, Value.bool false, Value.bool false, Value.bool false, Value.bool false, Value.bool false, Value.bool false, Value.bool false, Value.bool false, Value.bool false, Value.bool false, Value.bool false, Value.bool false, Value.bool false, Value.bool false, Value.bool false, Value.bool false, Value.bool false, Value.bool false, Value.bool false, Value.bool false, Value.bool false, Value.bool false, Value.bool false, Value.bool false, Value.bool false] 106)) = V at *
      have HV0 := Lib.hid hV0
      have HVB := Lib.hid hVB
      clear hV0 hVB
      obtain ⟨wo, hwo⟩ : ∃ wo, Hid (wo = wr) := ⟨_, rfl⟩
      rw [← hwo.out] at HVB hB hR hsz hBd
      clear hwo
      go_upto_region 8 with (fail)
      go_loopw [10, 11] (fun s10 s11 wr2 => ∃ s k : Nat, k ≤ 20 ∧ s11 = .int .i64 (k : Int) ∧ s10 = .int .i64 (cnt s : Nat) ∧ Hid (BoolRow wr2 B s) ∧ Hid (Below wo.heap.size wo wr2)) (fun _ s11 _ => 40 - (intOf s11).toNat)
      case atStart => exact ⟨0, 0, by omega, rfl, by rw [cnt_zero]; rfl, HV0, HVB⟩
      case round =>
        clear HV0 HVB
        obtain ⟨s, k, hk, rfl, rfl, hbr, hB2⟩ := hrel
        by_cases hil : i < len
        · have f1 : (i : Int) < (len : Int) := by omega
          obtain ⟨b, o, rfl, hb, hc⟩ := (H.out.g (by rw [HL.out]; omega))
          obtain ⟨p, c, h1, h2⟩ := hc i (by rw [HL.out]; exact hil)
          obtain ⟨l, hl⟩ : ∃ l, Hid (l = xs[i]?.getD []) := ⟨_, rfl⟩
          rw [← hl.out] at h1 h2
          have hBw : Below w.heap.size w wr := hB.out.trans (hB2.out.mono hB.out.size)
          have k1 := (hBw.cell (p := ⟨b, o + i, none⟩) hb).trans h1
          have HSL := Lib.hid (h2.g.below hBw (Nat.le_refl _))
          have hfl := h2.fits
          have hcl := h2.capm
          unfold maxLen at hcl
          clear hc h1 h2 hBw
          generalize l.length = ll at *
          by_cases hkl : k < ll
          · have f2 : (k : Int) < (ll : Int) := by omega
            have f3 : (0 : Int) ≤ (k : Int) := by omega
            by_cases hk20 : k < 20
            · have f4 : (k : Int) < 20 := by omega
              obtain ⟨b2, o2, rfl, hb2, hc2⟩ := HSL.out (by omega)
              have k2 := hc2 k hkl
              clear hc2
              obtain ⟨x, hx64, hx⟩ := mod64 (l[k]?.getD 0)
              go_upto_region 11 with (fail)
              rw [hx]
              clear k1 k2 hx
              have k3 := hbr.out.cell hx64
              have hfz := hbr.out.frozen x
              have hxi : (x : Int) < 64 := by omega
              have hx0 : (0 : Int) ≤ (x : Int) := by omega
              cases hbit : s.testBit x with
              | true =>
                rw [hbit] at k3
                go_wp2
                exact ⟨⟨s, k + 1, by omega, int_eq (by omega), rfl, hbr, hB2⟩, by simp [intOf]; omega⟩
              | false =>
                rw [hbit] at k3
                have hcn := cnt_pw hbit hx64
                have HBS := Lib.hid (hbr.out.set hx64)
                have HBN : Hid (Below wo.heap.size wo (wr.setCell ⟨B, x, none⟩ (.bool true))) := hB2.out.setCell (by rw [hBd.out]; exact Nat.le_refl _) _
                have hcl := cnt_le s
                go_wp2
                exact ⟨⟨s ||| pw x, k + 1, by omega, int_eq (by omega), int_eq (by rw [hcn]; omega), HBS, HBN⟩, by simp [intOf]; omega⟩
            · have f4 : ¬ (k : Int) < 20 := by omega
              go_upto_region 15 with (fail)
              obtain ⟨r, hr⟩ : ∃ r, Hid (r = i % 3) := ⟨_, rfl⟩
              have hr2 : r ≤ 2 := by rw [hr.out]; omega
              rw [show (i : Int) % 3 = (r : Int) by rw [hr.out]; simp]
              go_loopw [10, 13] (fun s10 s13 wr2 => ∃ s x : Nat, r ≤ x ∧ x ≤ 40 ∧ s13 = .int .i64 (x : Int) ∧ s10 = .int .i64 (cnt s : Nat) ∧ Hid (∀ y, r ≤ y → y < x → s.testBit y = true) ∧ Hid (BoolRow wr2 B s) ∧ Hid (Below wo.heap.size wo wr2)) (fun _ s13 _ => 80 - (intOf s13).toNat)
              case atStart => exact ⟨s, r, by omega, by omega, rfl, rfl, (fun y h1 h2 => by omega), hbr, hB2⟩
              case round =>
                clear hbr hB2 f1 f2 f3 f4 k1 HSL hfl hcl
                obtain ⟨s, x, hrx, hx4, rfl, rfl, hrun, hbr, hB2⟩ := hrel
                have hcl := cnt_le s
                by_cases hcd : cnt s < d
                · have e1 : (cnt s : Int) < (d : Int) := by omega
                  have hx18 := cnt_run hrx (by omega) hrun.out
                  have hx64 : x < 64 := by omega
                  have k3 := hbr.out.cell hx64
                  have hfz := hbr.out.frozen x
                  have hxi : (x : Int) < 64 := by omega
                  have hx0 : (0 : Int) ≤ (x : Int) := by omega
                  cases hbit : s.testBit x with
                  | true =>
                    have HRN : Hid (∀ y, r ≤ y → y < x + 1 → s.testBit y = true) := fun y h1 h2 => by
                      by_cases e : y = x
                      · subst e; exact hbit
                      · exact hrun.out y h1 (by omega)
                    rw [hbit] at k3
                    go_wp2
                    exact ⟨⟨s, x + 1, by omega, by omega, int_eq (by omega), rfl, HRN, hbr, hB2⟩, by simp [intOf]; omega⟩
                  | false =>
                    have HRN : Hid (∀ y, r ≤ y → y < x + 1 → (s ||| pw x).testBit y = true) := fun y h1 h2 => by
                      rw [Nat.testBit_or, pw, Nat.testBit_two_pow]
                      by_cases e : y = x
                      · subst e; simp
                      · rw [hrun.out y h1 (by omega)]; rfl
                    rw [hbit] at k3
                    have hcn := cnt_pw hbit hx64
                    have HBS := Lib.hid (hbr.out.set hx64)
                    have HBN : Hid (Below wo.heap.size wo (wr.setCell ⟨B, x, none⟩ (.bool true))) := hB2.out.setCell (by rw [hBd.out]; exact Nat.le_refl _) _
                    go_wp2
                    exact ⟨⟨s ||| pw x, x + 1, by omega, by omega, int_eq (by omega), int_eq (by rw [hcn]; omega), HRN, HBS, HBN⟩, by simp [intOf]; omega⟩
                · have e1 : ¬ (cnt s : Int) < (d : Int) := by omega
                  have HDC : Hid (d ≤ cnt s) := by rw [Hid]; omega
                  go_upto_region 22 with (fail)
                  go_loopw [14, 15] (fun s14 s15 wr2 => ∃ q : Nat, q ≤ 64 ∧ s15 = .int .i64 (q : Int) ∧ Hid (QRow wr2 wo.heap.size 3 1 s14 (bl s q).length (iv (bl s q))) ∧ Hid (BoolRow wr2 B s) ∧ Hid (Below wo.heap.size wo wr2)) (fun _ s15 _ => 80 - (intOf s15).toNat)
                  case atStart => exact ⟨0, by omega, rfl, QRow.nil _ _ _ _, hbr, hB2⟩
                  case round =>
                    clear hbr hB2 hcd e1 hrun
                    obtain ⟨q, hq, rfl, hQ, hbr, hB2⟩ := hrel
                    obtain ⟨p4, c4, rfl⟩ := hQ.out.isSlice
                    have hqs := bl_len_le s q
                    have hsz2 := hB2.out.size
                    by_cases hq64 : q < 64
                    · have e2 : (q : Int) ≤ 63 := by omega
                      have e3 : (q : Int) < 64 := by omega
                      have e4 : (0 : Int) ≤ (q : Int) := by omega
                      have k3 := hbr.out.cell hq64
                      cases hbit : s.testBit q with
                      | false =>
                        have hbe : bl s (q + 1) = bl s q := by rw [bl_succ, hbit]; simp
                        rw [← hbe] at hQ
                        rw [hbit] at k3
                        rw [← hbe]
                        go_wp2
                        exact ⟨⟨q + 1, by omega, int_eq (by omega), hQ, hbr, hB2⟩, by simp [intOf]; omega⟩
                      | true =>
                        have hbe : bl s (q + 1) = bl s q ++ [q] := by rw [bl_succ, hbit]; simp
                        have HBE : Hid ((bl s (q + 1)).length = (bl s q).length + 1) := by rw [Hid, hbe, List.length_append]; rfl
                        have HBI : Hid (iv (bl s (q + 1)) = iv (bl s q) ++ [.int .i64 (q : Int)]) := by rw [Hid, hbe, iv_snoc]
                        rw [hbit] at k3
                        have HQA : Hid (QRow (wr.alloc (.cells #[.int .i64 (q : Int)] 3)) wo.heap.size 3 1 (.slice p4 (bl s q).length c4) (bl s q).length (iv (bl s q))) := hQ.out.alloc _
                        have HBA : Hid (BoolRow (wr.alloc (.cells #[.int .i64 (q : Int)] 3)) B s) := hbr.out.alloc _
                        have HLT := Lib.hid hQ.out.lt
                        clear hbe
                        generalize bl s q = bq at *
                        go_wp2_with (at_builtin; go_must (refine wpList_append_q _ rfl (.tmp 80) (.tmp 82) 25 rfl wo.heap.size 3 i0 (.int .i64 0) 1 8 Tryd.underlying25 hi0 hz0 hz1 hz2 rfl (by decide) _ bq.length (iv bq) rfl HQA.out ⟨_, 0, none⟩ 1 1 [.int .i64 (q : Int)] rfl rfl (cells_new1 _ _ _) (by simp [Value.oneCell']) (by unfold maxLen; omega) (by omega) (by simp; omega) ?_); intro v7 w7 hq7 hg7 ho7; have HQ7 : Hid (QRow w7 wo.heap.size 3 1 v7 (bl s (q + 1)).length (iv (bl s (q + 1)))) := (by rw [HBE.out, HBI.out]; exact hq7); have HBR7 := Lib.hid (HBA.out.kept HQA.out hg7); have HB7 : Hid (Below wo.heap.size wo w7) := Below.grown (hB2.out.alloc hsz2 _) hg7 (by simp; omega) (fun kk e => (HLT.out kk e).1); clear hq7 hg7 ho7)
                        exact ⟨⟨q + 1, by omega, int_eq (by omega), HQ7, HBR7, HB7⟩, by simp [intOf]; omega⟩
                    · have e2 : ¬ (q : Int) ≤ 63 := by omega
                      have hqe : q = 64 := by omega
                      rw [hqe] at hQ ⊢
                      have HZL := Lib.hid (zl_len s)
                      have HQZ : Hid (QRow wr wo.heap.size 3 1 (.slice p4 (zl s).length c4) (zl s).length (ivI (zz (zl s)) (zl s).length)) := by
                        have := hQ.out
                        rw [iv_zl, show (bl s 64).length = (zl s).length from (zl_len s).symm] at this
                        exact this
                      rw [show (bl s 64).length = (zl s).length from (zl_len s).symm]
                      have HRZ : Hid (Rise (zl s) ∧ d ≤ (zl s).length) := ⟨zl_rise s, by rw [zl_len]; exact HDC.out⟩
                      have HL64 : Hid ((zl s).length ≤ 64) := by rw [zl_len]; exact hcl
                      generalize zl s = t at *
                      clear hqe hQ hq64 hqs HZL HDC
                      have HR4 := Lib.hid (hR.out.below hB2.out (Nat.le_refl _))
                      obtain ⟨ys, hy, hz⟩ := HR4.out
                      have HYA : Hid (QRow (wr.alloc (.cells #[.slice p4 t.length c4] 25)) w.heap.size 25 1 (.slice p3 i c3) i ys) := hy.alloc _
                      have HQA : Hid (QRow (wr.alloc (.cells #[.slice p4 t.length c4] 25)) w.heap.size 3 1 (.slice p4 t.length c4) t.length (ivI (zz t) t.length)) := (HQZ.out.alloc _).mono hsz
                      have HZA : Hid (∀ i', i' < i → ∃ p c, ys[i']? = some (.slice p (ls i').length c) ∧ QRow (wr.alloc (.cells #[.slice p4 t.length c4] 25)) w.heap.size 3 1 (.slice p (ls i').length c) (ls i').length (ivI (zz (ls i')) (ls i').length)) := (fun i' hi' => by obtain ⟨p, c, a1, a2⟩ := hz i' hi'; exact ⟨p, c, a1, a2.alloc _⟩)
                      have HLT := Lib.hid HYA.out.lt
                      have HB4 := Lib.hid (hB.out.trans (hB2.out.mono hB.out.size))
                      have hsz4 := HB4.out.size
                      have HL7 : Hid (∀ i', ((fun i' => if i' = i then t else ls i') i').length ≤ 64) := fun i' => by
                        show (if i' = i then t else ls i').length ≤ 64
                        by_cases e : i' = i
                        · rw [if_pos e]; exact HL64.out
                        · rw [if_neg e]; exact hl7.out i'
                      have HRI : Hid (∀ j, j < i + 1 → Rise ((fun i' => if i' = i then t else ls i') j) ∧ d ≤ ((fun i' => if i' = i then t else ls i') j).length) := fun j hj => by
                        show Rise (if j = i then t else ls j) ∧ d ≤ (if j = i then t else ls j).length
                        by_cases e : j = i
                        · rw [if_pos e]; exact HRZ.out
                        · rw [if_neg e]; exact hri.out j (by omega)
                      clear hy hz HR4 HQZ
                      go_wp2_with (at_builtin; go_must (refine wpList_append_q _ rfl (.tmp 84) (.tmp 86) 58 rfl w.heap.size 25 i1 (.slice none 0 0) 1 24 Tryd.underlying58 hi1 hy0 hy1 hy2 rfl (by decide) _ i ys rfl HYA.out ⟨_, 0, none⟩ 1 1 [.slice p4 t.length c4] rfl rfl (cells_new1 _ _ _) (by simp [Value.oneCell']) (by unfold maxLen; omega) (by omega) (by simp; omega) ?_); intro v5 w5 hq5 hg5 ho5; have HR5 : Hid (LRow w5 w.heap.size v5 (i + 1) (fun i' => if i' = i then t else ls i')) := LRow.push HZA.out HYA.out HQA.out hg5 hq5; have HB5 : Hid (Below w.heap.size w w5) := Below.grown (HB4.out.alloc hsz4 _) hg5 (by simp; omega) (fun kk e => (HLT.out kk e).1); clear hq5 hg5 ho5)
                      exact ⟨⟨i + 1, _, by omega, int_eq (by omega), HL7, HRI, HR5, HB5⟩, by simp [intOf]; omega⟩
          · have f2 : ¬ (k : Int) < (ll : Int) := by omega
            go_upto_region 15 with (fail)
            obtain ⟨r, hr⟩ : ∃ r, Hid (r = i % 3) := ⟨_, rfl⟩
            have hr2 : r ≤ 2 := by rw [hr.out]; omega
            rw [show (i : Int) % 3 = (r : Int) by rw [hr.out]; simp]
            go_loopw [10, 13] (fun s10 s13 wr2 => ∃ s x : Nat, r ≤ x ∧ x ≤ 40 ∧ s13 = .int .i64 (x : Int) ∧ s10 = .int .i64 (cnt s : Nat) ∧ Hid (∀ y, r ≤ y → y < x → s.testBit y = true) ∧ Hid (BoolRow wr2 B s) ∧ Hid (Below wo.heap.size wo wr2)) (fun _ s13 _ => 80 - (intOf s13).toNat)
            case atStart => exact ⟨s, r, by omega, by omega, rfl, rfl, (fun y h1 h2 => by omega), hbr, hB2⟩
            case round =>
              clear hbr hB2 f1 f2 k1 HSL hfl hcl
              obtain ⟨s, x, hrx, hx4, rfl, rfl, hrun, hbr, hB2⟩ := hrel
              have hcl := cnt_le s
              by_cases hcd : cnt s < d
              · have e1 : (cnt s : Int) < (d : Int) := by omega
                have hx18 := cnt_run hrx (by omega) hrun.out
                have hx64 : x < 64 := by omega
                have k3 := hbr.out.cell hx64
                have hfz := hbr.out.frozen x
                have hxi : (x : Int) < 64 := by omega
                have hx0 : (0 : Int) ≤ (x : Int) := by omega
                cases hbit : s.testBit x with
                | true =>
                  have HRN : Hid (∀ y, r ≤ y → y < x + 1 → s.testBit y = true) := fun y h1 h2 => by
                    by_cases e : y = x
                    · subst e; exact hbit
                    · exact hrun.out y h1 (by omega)
                  rw [hbit] at k3
                  go_wp2
                  exact ⟨⟨s, x + 1, by omega, by omega, int_eq (by omega), rfl, HRN, hbr, hB2⟩, by simp [intOf]; omega⟩
                | false =>
                  have HRN : Hid (∀ y, r ≤ y → y < x + 1 → (s ||| pw x).testBit y = true) := fun y h1 h2 => by
                    rw [Nat.testBit_or, pw, Nat.testBit_two_pow]
                    by_cases e : y = x
                    · subst e; simp
                    · rw [hrun.out y h1 (by omega)]; rfl
                  rw [hbit] at k3
                  have hcn := cnt_pw hbit hx64
                  have HBS := Lib.hid (hbr.out.set hx64)
                  have HBN : Hid (Below wo.heap.size wo (wr.setCell ⟨B, x, none⟩ (.bool true))) := hB2.out.setCell (by rw [hBd.out]; exact Nat.le_refl _) _
                  go_wp2
                  exact ⟨⟨s ||| pw x, x + 1, by omega, by omega, int_eq (by omega), int_eq (by rw [hcn]; omega), HRN, HBS, HBN⟩, by simp [intOf]; omega⟩
              · have e1 : ¬ (cnt s : Int) < (d : Int) := by omega
                have HDC : Hid (d ≤ cnt s) := by rw [Hid]; omega
                go_upto_region 22 with (fail)
                go_loopw [14, 15] (fun s14 s15 wr2 => ∃ q : Nat, q ≤ 64 ∧ s15 = .int .i64 (q : Int) ∧ Hid (QRow wr2 wo.heap.size 3 1 s14 (bl s q).length (iv (bl s q))) ∧ Hid (BoolRow wr2 B s) ∧ Hid (Below wo.heap.size wo wr2)) (fun _ s15 _ => 80 - (intOf s15).toNat)
                case atStart => exact ⟨0, by omega, rfl, QRow.nil _ _ _ _, hbr, hB2⟩
                case round =>
                  clear hbr hB2 hcd e1 hrun
                  obtain ⟨q, hq, rfl, hQ, hbr, hB2⟩ := hrel
                  obtain ⟨p4, c4, rfl⟩ := hQ.out.isSlice
                  have hqs := bl_len_le s q
                  have hsz2 := hB2.out.size
                  by_cases hq64 : q < 64
                  · have e2 : (q : Int) ≤ 63 := by omega
                    have e3 : (q : Int) < 64 := by omega
                    have e4 : (0 : Int) ≤ (q : Int) := by omega
                    have k3 := hbr.out.cell hq64
                    cases hbit : s.testBit q with
                    | false =>
                      have hbe : bl s (q + 1) = bl s q := by rw [bl_succ, hbit]; simp
                      rw [← hbe] at hQ
                      rw [hbit] at k3
                      rw [← hbe]
                      go_wp2
                      exact ⟨⟨q + 1, by omega, int_eq (by omega), hQ, hbr, hB2⟩, by simp [intOf]; omega⟩
                    | true =>
                      have hbe : bl s (q + 1) = bl s q ++ [q] := by rw [bl_succ, hbit]; simp
                      have HBE : Hid ((bl s (q + 1)).length = (bl s q).length + 1) := by rw [Hid, hbe, List.length_append]; rfl
                      have HBI : Hid (iv (bl s (q + 1)) = iv (bl s q) ++ [.int .i64 (q : Int)]) := by rw [Hid, hbe, iv_snoc]
                      rw [hbit] at k3
                      have HQA : Hid (QRow (wr.alloc (.cells #[.int .i64 (q : Int)] 3)) wo.heap.size 3 1 (.slice p4 (bl s q).length c4) (bl s q).length (iv (bl s q))) := hQ.out.alloc _
                      have HBA : Hid (BoolRow (wr.alloc (.cells #[.int .i64 (q : Int)] 3)) B s) := hbr.out.alloc _
                      have HLT := Lib.hid hQ.out.lt
                      clear hbe
                      generalize bl s q = bq at *
                      go_wp2_with (at_builtin; go_must (refine wpList_append_q _ rfl (.tmp 80) (.tmp 82) 25 rfl wo.heap.size 3 i0 (.int .i64 0) 1 8 Tryd.underlying25 hi0 hz0 hz1 hz2 rfl (by decide) _ bq.length (iv bq) rfl HQA.out ⟨_, 0, none⟩ 1 1 [.int .i64 (q : Int)] rfl rfl (cells_new1 _ _ _) (by simp [Value.oneCell']) (by unfold maxLen; omega) (by omega) (by simp; omega) ?_); intro v7 w7 hq7 hg7 ho7; have HQ7 : Hid (QRow w7 wo.heap.size 3 1 v7 (bl s (q + 1)).length (iv (bl s (q + 1)))) := (by rw [HBE.out, HBI.out]; exact hq7); have HBR7 := Lib.hid (HBA.out.kept HQA.out hg7); have HB7 : Hid (Below wo.heap.size wo w7) := Below.grown (hB2.out.alloc hsz2 _) hg7 (by simp; omega) (fun kk e => (HLT.out kk e).1); clear hq7 hg7 ho7)
                      exact ⟨⟨q + 1, by omega, int_eq (by omega), HQ7, HBR7, HB7⟩, by simp [intOf]; omega⟩
                  · have e2 : ¬ (q : Int) ≤ 63 := by omega
                    have hqe : q = 64 := by omega
                    rw [hqe] at hQ ⊢
                    have HZL := Lib.hid (zl_len s)
                    have HQZ : Hid (QRow wr wo.heap.size 3 1 (.slice p4 (zl s).length c4) (zl s).length (ivI (zz (zl s)) (zl s).length)) := by
                      have := hQ.out
                      rw [iv_zl, show (bl s 64).length = (zl s).length from (zl_len s).symm] at this
                      exact this
                    rw [show (bl s 64).length = (zl s).length from (zl_len s).symm]
                    have HRZ : Hid (Rise (zl s) ∧ d ≤ (zl s).length) := ⟨zl_rise s, by rw [zl_len]; exact HDC.out⟩
                    have HL64 : Hid ((zl s).length ≤ 64) := by rw [zl_len]; exact hcl
                    generalize zl s = t at *
                    clear hqe hQ hq64 hqs HZL HDC
                    have HR4 := Lib.hid (hR.out.below hB2.out (Nat.le_refl _))
                    obtain ⟨ys, hy, hz⟩ := HR4.out
                    have HYA : Hid (QRow (wr.alloc (.cells #[.slice p4 t.length c4] 25)) w.heap.size 25 1 (.slice p3 i c3) i ys) := hy.alloc _
                    have HQA : Hid (QRow (wr.alloc (.cells #[.slice p4 t.length c4] 25)) w.heap.size 3 1 (.slice p4 t.length c4) t.length (ivI (zz t) t.length)) := (HQZ.out.alloc _).mono hsz
                    have HZA : Hid (∀ i', i' < i → ∃ p c, ys[i']? = some (.slice p (ls i').length c) ∧ QRow (wr.alloc (.cells #[.slice p4 t.length c4] 25)) w.heap.size 3 1 (.slice p (ls i').length c) (ls i').length (ivI (zz (ls i')) (ls i').length)) := (fun i' hi' => by obtain ⟨p, c, a1, a2⟩ := hz i' hi'; exact ⟨p, c, a1, a2.alloc _⟩)
                    have HLT := Lib.hid HYA.out.lt
                    have HB4 := Lib.hid (hB.out.trans (hB2.out.mono hB.out.size))
                    have hsz4 := HB4.out.size
                    have HL7 : Hid (∀ i', ((fun i' => if i' = i then t else ls i') i').length ≤ 64) := fun i' => by
                      show (if i' = i then t else ls i').length ≤ 64
                      by_cases e : i' = i
                      · rw [if_pos e]; exact HL64.out
                      · rw [if_neg e]; exact hl7.out i'
                    have HRI : Hid (∀ j, j < i + 1 → Rise ((fun i' => if i' = i then t else ls i') j) ∧ d ≤ ((fun i' => if i' = i then t else ls i') j).length) := fun j hj => by
                      show Rise (if j = i then t else ls j) ∧ d ≤ (if j = i then t else ls j).length
                      by_cases e : j = i
                      · rw [if_pos e]; exact HRZ.out
                      · rw [if_neg e]; exact hri.out j (by omega)
                    clear hy hz HR4 HQZ
                    go_wp2_with (at_builtin; go_must (refine wpList_append_q _ rfl (.tmp 84) (.tmp 86) 58 rfl w.heap.size 25 i1 (.slice none 0 0) 1 24 Tryd.underlying58 hi1 hy0 hy1 hy2 rfl (by decide) _ i ys rfl HYA.out ⟨_, 0, none⟩ 1 1 [.slice p4 t.length c4] rfl rfl (cells_new1 _ _ _) (by simp [Value.oneCell']) (by unfold maxLen; omega) (by omega) (by simp; omega) ?_); intro v5 w5 hq5 hg5 ho5; have HR5 : Hid (LRow w5 w.heap.size v5 (i + 1) (fun i' => if i' = i then t else ls i')) := LRow.push HZA.out HYA.out HQA.out hg5 hq5; have HB5 : Hid (Below w.heap.size w w5) := Below.grown (HB4.out.alloc hsz4 _) hg5 (by simp; omega) (fun kk e => (HLT.out kk e).1); clear hq5 hg5 ho5)
                    exact ⟨⟨i + 1, _, by omega, int_eq (by omega), HL7, HRI, HR5, HB5⟩, by simp [intOf]; omega⟩
        · have f1 : ¬ (i : Int) < (len : Int) := by omega
          go_upto_region 15 with (fail)
          obtain ⟨r, hr⟩ : ∃ r, Hid (r = i % 3) := ⟨_, rfl⟩
          have hr2 : r ≤ 2 := by rw [hr.out]; omega
          rw [show (i : Int) % 3 = (r : Int) by rw [hr.out]; simp]
          go_loopw [10, 13] (fun s10 s13 wr2 => ∃ s x : Nat, r ≤ x ∧ x ≤ 40 ∧ s13 = .int .i64 (x : Int) ∧ s10 = .int .i64 (cnt s : Nat) ∧ Hid (∀ y, r ≤ y → y < x → s.testBit y = true) ∧ Hid (BoolRow wr2 B s) ∧ Hid (Below wo.heap.size wo wr2)) (fun _ s13 _ => 80 - (intOf s13).toNat)
          case atStart => exact ⟨s, r, by omega, by omega, rfl, rfl, (fun y h1 h2 => by omega), hbr, hB2⟩
          case round =>
            clear hbr hB2 f1
            obtain ⟨s, x, hrx, hx4, rfl, rfl, hrun, hbr, hB2⟩ := hrel
            have hcl := cnt_le s
            by_cases hcd : cnt s < d
            · have e1 : (cnt s : Int) < (d : Int) := by omega
              have hx18 := cnt_run hrx (by omega) hrun.out
              have hx64 : x < 64 := by omega
              have k3 := hbr.out.cell hx64
              have hfz := hbr.out.frozen x
              have hxi : (x : Int) < 64 := by omega
              have hx0 : (0 : Int) ≤ (x : Int) := by omega
              cases hbit : s.testBit x with
              | true =>
                have HRN : Hid (∀ y, r ≤ y → y < x + 1 → s.testBit y = true) := fun y h1 h2 => by
                  by_cases e : y = x
                  · subst e; exact hbit
                  · exact hrun.out y h1 (by omega)
                rw [hbit] at k3
                go_wp2
                exact ⟨⟨s, x + 1, by omega, by omega, int_eq (by omega), rfl, HRN, hbr, hB2⟩, by simp [intOf]; omega⟩
              | false =>
                have HRN : Hid (∀ y, r ≤ y → y < x + 1 → (s ||| pw x).testBit y = true) := fun y h1 h2 => by
                  rw [Nat.testBit_or, pw, Nat.testBit_two_pow]
                  by_cases e : y = x
                  · subst e; simp
                  · rw [hrun.out y h1 (by omega)]; rfl
                rw [hbit] at k3
                have hcn := cnt_pw hbit hx64
                have HBS := Lib.hid (hbr.out.set hx64)
                have HBN : Hid (Below wo.heap.size wo (wr.setCell ⟨B, x, none⟩ (.bool true))) := hB2.out.setCell (by rw [hBd.out]; exact Nat.le_refl _) _
                go_wp2
                exact ⟨⟨s ||| pw x, x + 1, by omega, by omega, int_eq (by omega), int_eq (by rw [hcn]; omega), HRN, HBS, HBN⟩, by simp [intOf]; omega⟩
            · have e1 : ¬ (cnt s : Int) < (d : Int) := by omega
              have HDC : Hid (d ≤ cnt s) := by rw [Hid]; omega
              go_upto_region 22 with (fail)
              go_loopw [14, 15] (fun s14 s15 wr2 => ∃ q : Nat, q ≤ 64 ∧ s15 = .int .i64 (q : Int) ∧ Hid (QRow wr2 wo.heap.size 3 1 s14 (bl s q).length (iv (bl s q))) ∧ Hid (BoolRow wr2 B s) ∧ Hid (Below wo.heap.size wo wr2)) (fun _ s15 _ => 80 - (intOf s15).toNat)
              case atStart => exact ⟨0, by omega, rfl, QRow.nil _ _ _ _, hbr, hB2⟩
              case round =>
                clear hbr hB2 hcd e1 hrun
                obtain ⟨q, hq, rfl, hQ, hbr, hB2⟩ := hrel
                obtain ⟨p4, c4, rfl⟩ := hQ.out.isSlice
                have hqs := bl_len_le s q
                have hsz2 := hB2.out.size
                by_cases hq64 : q < 64
                · have e2 : (q : Int) ≤ 63 := by omega
                  have e3 : (q : Int) < 64 := by omega
                  have e4 : (0 : Int) ≤ (q : Int) := by omega
                  have k3 := hbr.out.cell hq64
                  cases hbit : s.testBit q with
                  | false =>
                    have hbe : bl s (q + 1) = bl s q := by rw [bl_succ, hbit]; simp
                    rw [← hbe] at hQ
                    rw [hbit] at k3
                    rw [← hbe]
                    go_wp2
                    exact ⟨⟨q + 1, by omega, int_eq (by omega), hQ, hbr, hB2⟩, by simp [intOf]; omega⟩
                  | true =>
                    have hbe : bl s (q + 1) = bl s q ++ [q] := by rw [bl_succ, hbit]; simp
                    have HBE : Hid ((bl s (q + 1)).length = (bl s q).length + 1) := by rw [Hid, hbe, List.length_append]; rfl
                    have HBI : Hid (iv (bl s (q + 1)) = iv (bl s q) ++ [.int .i64 (q : Int)]) := by rw [Hid, hbe, iv_snoc]
                    rw [hbit] at k3
                    have HQA : Hid (QRow (wr.alloc (.cells #[.int .i64 (q : Int)] 3)) wo.heap.size 3 1 (.slice p4 (bl s q).length c4) (bl s q).length (iv (bl s q))) := hQ.out.alloc _
                    have HBA : Hid (BoolRow (wr.alloc (.cells #[.int .i64 (q : Int)] 3)) B s) := hbr.out.alloc _
                    have HLT := Lib.hid hQ.out.lt
                    clear hbe
                    generalize bl s q = bq at *
                    go_wp2_with (at_builtin; go_must (refine wpList_append_q _ rfl (.tmp 80) (.tmp 82) 25 rfl wo.heap.size 3 i0 (.int .i64 0) 1 8 Tryd.underlying25 hi0 hz0 hz1 hz2 rfl (by decide) _ bq.length (iv bq) rfl HQA.out ⟨_, 0, none⟩ 1 1 [.int .i64 (q : Int)] rfl rfl (cells_new1 _ _ _) (by simp [Value.oneCell']) (by unfold maxLen; omega) (by omega) (by simp; omega) ?_); intro v7 w7 hq7 hg7 ho7; have HQ7 : Hid (QRow w7 wo.heap.size 3 1 v7 (bl s (q + 1)).length (iv (bl s (q + 1)))) := (by rw [HBE.out, HBI.out]; exact hq7); have HBR7 := Lib.hid (HBA.out.kept HQA.out hg7); have HB7 : Hid (Below wo.heap.size wo w7) := Below.grown (hB2.out.alloc hsz2 _) hg7 (by simp; omega) (fun kk e => (HLT.out kk e).1); clear hq7 hg7 ho7)
                    exact ⟨⟨q + 1, by omega, int_eq (by omega), HQ7, HBR7, HB7⟩, by simp [intOf]; omega⟩
                · have e2 : ¬ (q : Int) ≤ 63 := by omega
                  have hqe : q = 64 := by omega
                  rw [hqe] at hQ ⊢
                  have HZL := Lib.hid (zl_len s)
                  have HQZ : Hid (QRow wr wo.heap.size 3 1 (.slice p4 (zl s).length c4) (zl s).length (ivI (zz (zl s)) (zl s).length)) := by
                    have := hQ.out
                    rw [iv_zl, show (bl s 64).length = (zl s).length from (zl_len s).symm] at this
                    exact this
                  rw [show (bl s 64).length = (zl s).length from (zl_len s).symm]
                  have HRZ : Hid (Rise (zl s) ∧ d ≤ (zl s).length) := ⟨zl_rise s, by rw [zl_len]; exact HDC.out⟩
                  have HL64 : Hid ((zl s).length ≤ 64) := by rw [zl_len]; exact hcl
                  generalize zl s = t at *
                  clear hqe hQ hq64 hqs HZL HDC
                  have HR4 := Lib.hid (hR.out.below hB2.out (Nat.le_refl _))
                  obtain ⟨ys, hy, hz⟩ := HR4.out
                  have HYA : Hid (QRow (wr.alloc (.cells #[.slice p4 t.length c4] 25)) w.heap.size 25 1 (.slice p3 i c3) i ys) := hy.alloc _
                  have HQA : Hid (QRow (wr.alloc (.cells #[.slice p4 t.length c4] 25)) w.heap.size 3 1 (.slice p4 t.length c4) t.length (ivI (zz t) t.length)) := (HQZ.out.alloc _).mono hsz
                  have HZA : Hid (∀ i', i' < i → ∃ p c, ys[i']? = some (.slice p (ls i').length c) ∧ QRow (wr.alloc (.cells #[.slice p4 t.length c4] 25)) w.heap.size 3 1 (.slice p (ls i').length c) (ls i').length (ivI (zz (ls i')) (ls i').length)) := (fun i' hi' => by obtain ⟨p, c, a1, a2⟩ := hz i' hi'; exact ⟨p, c, a1, a2.alloc _⟩)
                  have HLT := Lib.hid HYA.out.lt
                  have HB4 := Lib.hid (hB.out.trans (hB2.out.mono hB.out.size))
                  have hsz4 := HB4.out.size
                  have HL7 : Hid (∀ i', ((fun i' => if i' = i then t else ls i') i').length ≤ 64) := fun i' => by
                    show (if i' = i then t else ls i').length ≤ 64
                    by_cases e : i' = i
                    · rw [if_pos e]; exact HL64.out
                    · rw [if_neg e]; exact hl7.out i'
                  have HRI : Hid (∀ j, j < i + 1 → Rise ((fun i' => if i' = i then t else ls i') j) ∧ d ≤ ((fun i' => if i' = i then t else ls i') j).length) := fun j hj => by
                    show Rise (if j = i then t else ls j) ∧ d ≤ (if j = i then t else ls j).length
                    by_cases e : j = i
                    · rw [if_pos e]; exact HRZ.out
                    · rw [if_neg e]; exact hri.out j (by omega)
                  clear hy hz HR4 HQZ
                  go_wp2_with (at_builtin; go_must (refine wpList_append_q _ rfl (.tmp 84) (.tmp 86) 58 rfl w.heap.size 25 i1 (.slice none 0 0) 1 24 Tryd.underlying58 hi1 hy0 hy1 hy2 rfl (by decide) _ i ys rfl HYA.out ⟨_, 0, none⟩ 1 1 [.slice p4 t.length c4] rfl rfl (cells_new1 _ _ _) (by simp [Value.oneCell']) (by unfold maxLen; omega) (by omega) (by simp; omega) ?_); intro v5 w5 hq5 hg5 ho5; have HR5 : Hid (LRow w5 w.heap.size v5 (i + 1) (fun i' => if i' = i then t else ls i')) := LRow.push HZA.out HYA.out HQA.out hg5 hq5; have HB5 : Hid (Below w.heap.size w w5) := Below.grown (HB4.out.alloc hsz4 _) hg5 (by simp; omega) (fun kk e => (HLT.out kk e).1); clear hq5 hg5 ho5)
                  exact ⟨⟨i + 1, _, by omega, int_eq (by omega), HL7, HRI, HR5, HB5⟩, by simp [intOf]; omega⟩
    · have g1 : ¬ (i : Int) < (m : Int) := by omega
      have hie : i = m := by omega
      rw [hie] at hR hri ⊢
      clear hie
      go_wp2
      go_ret
      exact ⟨⟨p3, c3, rfl, ls, hl7.out, hri.out, hR.out⟩, hB.out⟩
end Go.Proofs.YtpknnjcbcndbbaaDoor
namespace Go.Proofs.YtpknnjcbcndbbaaDoor
open Go.RowKit Go.Shelf

theorem rise_len {l : List Int} (h : Rise l) : l.length ≤ 64 := by
  have key : ∀ k, k < l.length → (k : Int) ≤ zz l k := by
    intro k
    induction k with
    | zero => intro h0; exact (h 0 h0).1
    | succ k ih =>
      intro hk
      have h1 := (h (k + 1) hk).2.2 (by omega)
      have h2 := ih (by omega)
      rw [Nat.add_sub_cancel] at h1
      omega
  cases e : l.length with
  | zero => omega
  | succ n =>
    have h1 := key n (by omega)
    have h2 := (h n (by omega)).2.1
    omega
def natT (ls : Nat → List Int) (m i : Nat) : List Nat := if i < m then natL ls i else []
theorem natT_len {ls : Nat → List Int} {m : Nat} (h : ∀ i, i < m → Rise (ls i)) (i : Nat) : (natT ls m i).length ≤ 64 := by
  unfold natT
  by_cases hi : i < m
  · rw [if_pos hi]; unfold natL; rw [List.length_map]; exact rise_len (h i hi)
  · rw [if_neg hi]; simp
theorem LstI.at {W : World} {la : Option Addr} {m : Nat} {ls : Nat → List Int} (h : LstI W la m ls) (hr : ∀ i, i < m → Rise (ls i)) : ListsAt W la m (natT ls m) := fun h0 => by
  obtain ⟨b, o, e, h1, h2⟩ := h h0
  refine ⟨b, o, e, h1, fun i hi => ?_⟩
  obtain ⟨p, c, h3, h4⟩ := h2 i hi
  have hl : (natT ls m i).length = (ls i).length := by unfold natT; rw [if_pos hi]; unfold natL; rw [List.length_map]
  refine ⟨p, c, by rw [hl]; exact h3, fun hne => ?_⟩
  rw [hl] at hne
  obtain ⟨b2, o2, e2, h5, h6⟩ := h4 hne
  refine ⟨b2, o2, e2, h5, fun j hj => ?_⟩
  rw [hl] at hj
  rw [h6 j hj]
  have h7 := (hr i hi j hj).1
  have : ((nth (natT ls m i) j : Nat) : Int) = zz (ls i) j := by
    unfold natT
    rw [if_pos hi]
    unfold natL nth zz at *
    rw [List.getElem?_map]
    rw [List.getElem?_eq_getElem hj] at h7 ⊢
    simp at h7 ⊢
    omega
  simp only [this]
theorem famF_T {ps : List (Int × Int)} {ls : Nat → List Int} {m : Nat} (hm : m = ps.length) {f : Nat → Nat} : FamF ps (natT ls m) f ↔ FamF ps (natL ls) f := by
  have e : ∀ i, i < ps.length → natT ls m i = natL ls i := fun i hi => by unfold natT; rw [if_pos (by omega)]
  exact ⟨fun h => ⟨fun i hi => by rw [← e i hi]; exact h.1 i hi, h.2⟩, fun h => ⟨fun i hi => by rw [e i hi]; exact h.1 i hi, h.2⟩⟩
/-- the document's Some of lists that are right -/
theorem some_of {a la : Option Addr} {cap lc m : Nat} {ps : List (Int × Int)} {ls : Nat → List Int} (hm : ps.length ≤ 1099511627776) (hP : ListsP ls m ps.length) (w : World) (hE : Pairs w a ps) (hL : LstI w la m ls) :
    Calls Tryd.prog 40 #[.slice a ps.length cap, .slice la m lc] w fun e w' => BoolP (∃ f, FamF ps (natL ls) f) e ∧ Below w.heap.size w w' := by
  have hml := hP.2
  have hA := hL.at hP.1
  have hN := natT_len hP.1
  rw [hml] at hA hN ⊢
  have h := rsome_any (lc := lc) (cap := cap) hm hN w hE hA
  exact h.mono fun e w' ⟨⟨b, h1, h2⟩, h3⟩ => ⟨⟨b, h1, h2.trans ⟨fun ⟨f, hf⟩ => ⟨f, (famF_T rfl).1 hf⟩, fun ⟨f, hf⟩ => ⟨f, (famF_T rfl).2 hf⟩⟩⟩, h3⟩
theorem from_true {p la : Option Addr} {c m lc : Nat} {ps : List (Int × Int)} {ls : Nat → List Int} {f : Nat → Nat} (hl : ps.length ≤ 1099511627776) (hll : ∀ i, (ls i).length ≤ 1000) (hP : ListsP ls m ps.length) (F : FamF ps (natL ls) f) (w : World) (h : SrcI w p ps.length (fun j => (f j : Int))) (hL : LstI w la m ls) :
    Calls Tryd.prog 41 #[.slice p ps.length c, .slice la m lc] w fun e w' => e = .returned (.bool true) ∧ Below w.heap.size w w' :=
  (from_any p la ps.length c m lc _ ls w hl hll h hL).mono fun e w' ⟨h1, h2⟩ => ⟨h1.dec ⟨fun _ => ⟨hP.2.symm, fun i hi => (mem_natL (hP.1 i (by rw [hP.2]; exact hi))).1 (F.1 i hi)⟩, fun _ => rfl⟩, h2⟩
theorem fam_proper {ps : List (Int × Int)} {ls : Nat → List Nat} {f : Nat → Nat} (F : FamF ps ls f) : ProperI ps (fun j => (f j : Int)) := fun i hi k hk h => by
  have h1 := F.2 i k hi (by omega) (by omega) h.2
  have h2 := h.1
  exact h1 (by have h3 : ((f i : Nat) : Int) = ((f k : Nat) : Int) := h2; omega)
set_option maxRecDepth 100000 in
set_option maxHeartbeats 4000000 in
theorem law8 (n : Int) (a : Option Addr) (cap : Nat) (ps : List (Int × Int)) (a2 : Option Addr) (cap2 : Nat) (xs : List (List Int)) (w : World) (h : PairsIn w a cap ps) (h2 : ListsIn w a2 cap2 xs) (hT : Tab w) :
    Calls Tryd.prog 8 #[.int .i64 n, .slice a ps.length cap, .slice a2 xs.length cap2] w fun e w' => e = .returned (.bool true) ∧ Below w.heap.size w w' := by
  have HTM := Lib.hid (tame_cap n a cap ps 8 w h (by decide) (by decide))
  have HT := Lib.hid hT
  have HLI : Hid (∀ W, Below w.heap.size w W → Calls Tryd.prog 37 #[.slice a2 xs.length cap2] W fun e w' => (∃ p c m ls, e = .returned (.slice p m c) ∧ m ≤ 125 ∧ (∀ i, (ls i).length ≤ 70) ∧ LRow w' W.heap.size (.slice p m c) m ls) ∧ Below W.heap.size W w') := fun W hW => lists_copy a2 cap2 xs W (h2.below hW (Nat.le_refl _))
  have HFI : Hid (∀ W (m : Nat), Below w.heap.size w W → m ≤ 1099511627776 → Calls Tryd.prog 42 #[.slice a2 xs.length cap2, .int .i64 (m : Int), .int .i64 1] W fun e w' => (∃ p c ls, e = .returned (.slice p m c) ∧ (∀ i, (ls i).length ≤ 64) ∧ (∀ i, i < m → Rise (ls i) ∧ 1 ≤ (ls i).length) ∧ LRow w' W.heap.size (.slice p m c) m ls) ∧ Below W.heap.size W w') := fun W m hW hm => by
    rw [show (1 : Int) = ((1 : Nat) : Int) from rfl]
    exact filled_any a2 cap2 m 1 xs W (h2.below hW (Nat.le_refl _)) hm (by decide)
  clear h h2 hT
  go_enter Tryd.func8, Tryd.ntmps8
  go_upto_region 2 with (go_at_call 14; refine (HTM.out).mono ?_; rintro e w1 ⟨m, qs, a1, c1, rfl, hm, hG1, hB1, hcf, hcm⟩; have HG1 := Lib.hid hG1; have HB1 := Lib.hid hB1; clear hG1 hB1)
  have HL := Lib.hid (HLI.out w1 HB1.out)
  clear HLI HTM
  go_upto_region 3 with (go_at_call 37; refine (HL.out).mono ?_; rintro e w2 ⟨⟨p2, c2, m2, ls2, rfl, hm2, hl2, hr2⟩, hB2⟩; have HL2 := Lib.hid hl2; have HR2 := Lib.hid hr2; have HG2 := Lib.hid (HG1.out.below hB2); have HB2 := Lib.hid (HB1.out.trans (hB2.mono HB1.out.size)); clear hB2 hl2 hr2)
  clear HL HG1
  go_upto_region 4 with (fail)
  go_loopw [7, 8, 9] (fun s7 s8 s9 wr => ∃ (k : Nat) (ps : List (Int × Int)) (p : Option Addr) (c ml : Nat) (ls : Nat → List Int), k ≤ 2 ∧ ps.length ≤ c1 ∧ ml ≤ 1099511627776 ∧ s9 = .int .i64 (k : Int) ∧ s7 = .slice a1 ps.length c1 ∧ s8 = .slice p ml c ∧ Hid (Good m ps a1 wr) ∧ Hid (LstI wr p ml ls) ∧ Hid (∀ i, (ls i).length ≤ 1000) ∧ Hid (Below w.heap.size w wr)) (fun _ _ s9 _ => 4 - (intOf s9).toNat)
  case atStart => exact ⟨0, qs, p2, c2, m2, ls2, by omega, hcf, by omega, rfl, rfl, rfl, HG2, HR2.out.lst, (fun i => Nat.le_trans (HL2.out i) (by decide)), HB2⟩
  case round =>
    clear HG2 HR2 HL2 HB2 hcf
    obtain ⟨k, ps, p, c, ml, ls, hk, hpc, hml, rfl, rfl, rfl, hG, hL, hll, hB⟩ := hrel
    by_cases hk2 : k < 2
    · have g1 : (k : Int) < 2 := by omega
      have hlen := hG.out.hl
      have HC1 := Lib.hid (FromLists_ok m a1 p c1 ml c ps ls wr (HT.out.below hB.out (Nat.le_refl _)) hG.out hml hll.out hL.out)
      go_upto_region 7 with (go_at_call 38; refine (HC1.out).mono ?_; rintro e w3 ⟨hf3, hB3⟩; have HB3 := Lib.hid hB3; clear hB3; rcases hf3 with ⟨rfl, hn3⟩ | ⟨rfl, hp3, h12⟩ | ⟨rfl, hp3, h12, hn3⟩ | ⟨p3, c3, f3, rfl, hp3, h12, hF3, hS3⟩)
      · have HV : (false = true ↔ ListsP ls ml ps.length) := ⟨(fun h => by cases h), fun h => absurd h hn3⟩
        have HLA := Lib.hid (lists_any p ml ps.length c ls w3 hml hll.out (hL.out.below HB3.out (Nat.le_refl _)))
        go_upto_region 17 with (go_at_call 39; refine (HLA.out).mono ?_; rintro e w4 ⟨h4, hB4⟩; obtain rfl := h4.dec (b := false) HV; have HB4 := Lib.hid (HB3.out.trans (hB4.mono HB3.out.size)); clear h4 hB4; try dsimp only)
        have HBX := Lib.hid (hB.out.trans (HB4.out.mono hB.out.size))
        have HGX := Lib.hid (hG.out.below HB4.out)
        clear HC1
        obtain ⟨k1, hk1⟩ : ∃ k1, Hid (k1 = min ps.length 12) := ⟨_, rfl⟩
        have hmin : min (ps.length : Int) (12 : Int) = (k1 : Int) := by rw [hk1.out]; omega
        have hkl : k1 ≤ ps.length := by rw [hk1.out]; exact Nat.min_le_left _ _
        have hkc : k1 ≤ c1 := by omega
        have hk12 : k1 ≤ 12 := by rw [hk1.out]; exact Nat.min_le_right _ _
        have HTK : Hid ((ps.take k1).length = k1) := by rw [Hid, List.length_take]; omega
        go_upto_region 18 with (fail)
        have HFC := Lib.hid (HFI.out _ k1 HBX.out (by omega))
        go_wp2_with (go_at_call 42; refine (HFC.out).mono ?_; rintro e w9 ⟨⟨p9, c9, ls9, rfl, hl9, -, hr9⟩, hB9⟩; have HL9 := Lib.hid hl9; have HR9 := Lib.hid hr9.lst; have HB9 := Lib.hid (HBX.out.trans (hB9.mono HBX.out.size)); have HG9 := Lib.hid ((HGX.out.below hB9).take k1); clear hl9 hr9 hB9)
        exact ⟨⟨k + 1, ps.take k1, p9, c9, k1, ls9, by omega, by rw [HTK.out]; omega, by omega, int_eq (by omega), by rw [HTK.out], rfl, HG9, HR9, (fun i => Nat.le_trans (HL9.out i) (by decide)), HB9⟩, by simp [intOf]; omega⟩
      · have HV : (true = true ↔ ListsP ls ml ps.length) := ⟨fun _ => hp3, fun _ => rfl⟩
        have g12 : (12 : Int) < (ps.length : Int) := by omega
        have HLA := Lib.hid (lists_any p ml ps.length c ls w3 hml hll.out (hL.out.below HB3.out (Nat.le_refl _)))
        go_upto_region 17 with (go_at_call 39; refine (HLA.out).mono ?_; rintro e w4 ⟨h4, hB4⟩; obtain rfl := h4.dec (b := true) HV; have HB4 := Lib.hid (HB3.out.trans (hB4.mono HB3.out.size)); clear h4 hB4; try dsimp only)
        clear g12
        have HBX := Lib.hid (hB.out.trans (HB4.out.mono hB.out.size))
        have HGX := Lib.hid (hG.out.below HB4.out)
        clear HC1
        obtain ⟨k1, hk1⟩ : ∃ k1, Hid (k1 = min ps.length 12) := ⟨_, rfl⟩
        have hmin : min (ps.length : Int) (12 : Int) = (k1 : Int) := by rw [hk1.out]; omega
        have hkl : k1 ≤ ps.length := by rw [hk1.out]; exact Nat.min_le_left _ _
        have hkc : k1 ≤ c1 := by omega
        have hk12 : k1 ≤ 12 := by rw [hk1.out]; exact Nat.min_le_right _ _
        have HTK : Hid ((ps.take k1).length = k1) := by rw [Hid, List.length_take]; omega
        go_upto_region 18 with (fail)
        have HFC := Lib.hid (HFI.out _ k1 HBX.out (by omega))
        go_wp2_with (go_at_call 42; refine (HFC.out).mono ?_; rintro e w9 ⟨⟨p9, c9, ls9, rfl, hl9, -, hr9⟩, hB9⟩; have HL9 := Lib.hid hl9; have HR9 := Lib.hid hr9.lst; have HB9 := Lib.hid (HBX.out.trans (hB9.mono HBX.out.size)); have HG9 := Lib.hid ((HGX.out.below hB9).take k1); clear hl9 hr9 hB9)
        exact ⟨⟨k + 1, ps.take k1, p9, c9, k1, ls9, by omega, by rw [HTK.out]; omega, by omega, int_eq (by omega), by rw [HTK.out], rfl, HG9, HR9, (fun i => Nat.le_trans (HL9.out i) (by decide)), HB9⟩, by simp [intOf]; omega⟩
      · have HV : (true = true ↔ ListsP ls ml ps.length) := ⟨fun _ => hp3, fun _ => rfl⟩
        have g12 : ¬ (12 : Int) < (ps.length : Int) := by omega
        have HN3 := Lib.hid hn3
        have HP3 := Lib.hid hp3
        have HSO : Hid (∀ W, Below wr.heap.size wr W → Calls Tryd.prog 40 #[.slice a1 ps.length c1, .slice p ml c] W fun e w' => BoolP (∃ f, FamF ps (natL ls) f) e ∧ Below W.heap.size W w') := fun W hW => some_of hlen HP3.out W (hG.out.hg.below hW (Nat.le_refl _)) (hL.out.below hW (Nat.le_refl _))
        have HLA := Lib.hid (lists_any p ml ps.length c ls w3 hml hll.out (hL.out.below HB3.out (Nat.le_refl _)))
        clear hn3 hp3
        go_upto_region 17 with (first
          | (go_at_call 39; refine (HLA.out).mono ?_; rintro e w4 ⟨h4, hB4⟩; obtain rfl := h4.dec (b := true) HV; have HB4 := Lib.hid (HB3.out.trans (hB4.mono HB3.out.size)); clear h4 hB4; try dsimp only)
          | (go_at_call 40; refine (HSO.out _ HB4.out).mono ?_; rintro e w5 ⟨h5, hB5⟩; obtain rfl := h5.dec (b := false) ⟨(fun h => by cases h), fun h => absurd h HN3.out⟩; have HB5 := Lib.hid (HB4.out.trans (hB5.mono HB4.out.size)); clear h5 hB5; try dsimp only))
        clear g12
        have HBX := Lib.hid (hB.out.trans (HB5.out.mono hB.out.size))
        have HGX := Lib.hid (hG.out.below HB5.out)
        clear HC1
        obtain ⟨k1, hk1⟩ : ∃ k1, Hid (k1 = min ps.length 12) := ⟨_, rfl⟩
        have hmin : min (ps.length : Int) (12 : Int) = (k1 : Int) := by rw [hk1.out]; omega
        have hkl : k1 ≤ ps.length := by rw [hk1.out]; exact Nat.min_le_left _ _
        have hkc : k1 ≤ c1 := by omega
        have hk12 : k1 ≤ 12 := by rw [hk1.out]; exact Nat.min_le_right _ _
        have HTK : Hid ((ps.take k1).length = k1) := by rw [Hid, List.length_take]; omega
        go_upto_region 18 with (fail)
        have HFC := Lib.hid (HFI.out _ k1 HBX.out (by omega))
        go_wp2_with (go_at_call 42; refine (HFC.out).mono ?_; rintro e w9 ⟨⟨p9, c9, ls9, rfl, hl9, -, hr9⟩, hB9⟩; have HL9 := Lib.hid hl9; have HR9 := Lib.hid hr9.lst; have HB9 := Lib.hid (HBX.out.trans (hB9.mono HBX.out.size)); have HG9 := Lib.hid ((HGX.out.below hB9).take k1); clear hl9 hr9 hB9)
        exact ⟨⟨k + 1, ps.take k1, p9, c9, k1, ls9, by omega, by rw [HTK.out]; omega, by omega, int_eq (by omega), by rw [HTK.out], rfl, HG9, HR9, (fun i => Nat.le_trans (HL9.out i) (by decide)), HB9⟩, by simp [intOf]; omega⟩
      · have HV : (true = true ↔ ListsP ls ml ps.length) := ⟨fun _ => hp3, fun _ => rfl⟩
        have g12 : ¬ (12 : Int) < (ps.length : Int) := by omega
        have HF3 := Lib.hid hF3
        have HP3 := Lib.hid hp3
        have HSO : Hid (∀ W, Below wr.heap.size wr W → Calls Tryd.prog 40 #[.slice a1 ps.length c1, .slice p ml c] W fun e w' => BoolP (∃ f, FamF ps (natL ls) f) e ∧ Below W.heap.size W w') := fun W hW => some_of hlen HP3.out W (hG.out.hg.below hW (Nat.le_refl _)) (hL.out.below hW (Nat.le_refl _))
        have HFR : Hid (∀ W, Below wr.heap.size wr W → SrcI W p3 ps.length (fun j => (f3 j : Int)) → Calls Tryd.prog 41 #[.slice p3 ps.length c3, .slice p ml c] W fun e w' => e = .returned (.bool true) ∧ Below W.heap.size W w') := fun W hW hS => from_true hlen hll.out HP3.out HF3.out W hS (hL.out.below hW (Nat.le_refl _))
        have HPT : Hid (∀ W, Below wr.heap.size wr W → SrcI W p3 ps.length (fun j => (f3 j : Int)) → Calls Tryd.prog 18 #[.slice a1 ps.length c1, .slice p3 ps.length c3] W fun e w' => e = .returned (.bool true) ∧ Below W.heap.size W w') := fun W hW hS => proper_true a1 p3 c1 c3 ps _ W hlen (hG.out.hg.below hW (Nat.le_refl _)) hS (fam_proper HF3.out)
        have HS3 := Lib.hid hS3
        have HLA := Lib.hid (lists_any p ml ps.length c ls w3 hml hll.out (hL.out.below HB3.out (Nat.le_refl _)))
        clear hF3 hp3 hS3
        go_upto_region 17 with (first
          | (go_at_call 39; refine (HLA.out).mono ?_; rintro e w4 ⟨h4, hB4⟩; obtain rfl := h4.dec (b := true) HV; have hB4' := hB4; have HB4 := Lib.hid (HB3.out.trans (hB4.mono HB3.out.size)); clear h4 hB4; try dsimp only; have HS4 := Lib.hid (HS3.out.below hB4' (Nat.le_refl _)); clear hB4')
          | (go_at_call 40; refine (HSO.out _ HB4.out).mono ?_; rintro e w5 ⟨h5, hB5⟩; obtain rfl := h5.dec (b := true) ⟨fun _ => ⟨f3, HF3.out⟩, fun _ => rfl⟩; have HS5 := Lib.hid (HS4.out.below hB5 (Nat.le_refl _)); have HB5 := Lib.hid (HB4.out.trans (hB5.mono HB4.out.size)); clear h5 hB5; try dsimp only)
          | (go_at_call 41; refine (HFR.out _ HB5.out HS5.out).mono ?_; rintro e w6 ⟨rfl, hB6⟩; have HS6 := Lib.hid (HS5.out.below hB6 (Nat.le_refl _)); have HB6 := Lib.hid (HB5.out.trans (hB6.mono HB5.out.size)); clear hB6; try dsimp only)
          | (go_at_call 18; refine (HPT.out _ HB6.out HS6.out).mono ?_; rintro e w7 ⟨rfl, hB7⟩; have HB7 := Lib.hid (HB6.out.trans (hB7.mono HB6.out.size)); clear hB7; try dsimp only))
        clear g12
        have HBX := Lib.hid (hB.out.trans (HB7.out.mono hB.out.size))
        have HGX := Lib.hid (hG.out.below HB7.out)
        clear HC1
        obtain ⟨k1, hk1⟩ : ∃ k1, Hid (k1 = min ps.length 12) := ⟨_, rfl⟩
        have hmin : min (ps.length : Int) (12 : Int) = (k1 : Int) := by rw [hk1.out]; omega
        have hkl : k1 ≤ ps.length := by rw [hk1.out]; exact Nat.min_le_left _ _
        have hkc : k1 ≤ c1 := by omega
        have hk12 : k1 ≤ 12 := by rw [hk1.out]; exact Nat.min_le_right _ _
        have HTK : Hid ((ps.take k1).length = k1) := by rw [Hid, List.length_take]; omega
        go_upto_region 18 with (fail)
        have HFC := Lib.hid (HFI.out _ k1 HBX.out (by omega))
        go_wp2_with (go_at_call 42; refine (HFC.out).mono ?_; rintro e w9 ⟨⟨p9, c9, ls9, rfl, hl9, -, hr9⟩, hB9⟩; have HL9 := Lib.hid hl9; have HR9 := Lib.hid hr9.lst; have HB9 := Lib.hid (HBX.out.trans (hB9.mono HBX.out.size)); have HG9 := Lib.hid ((HGX.out.below hB9).take k1); clear hl9 hr9 hB9)
        exact ⟨⟨k + 1, ps.take k1, p9, c9, k1, ls9, by omega, by rw [HTK.out]; omega, by omega, int_eq (by omega), by rw [HTK.out], rfl, HG9, HR9, (fun i => Nat.le_trans (HL9.out i) (by decide)), HB9⟩, by simp [intOf]; omega⟩
    · have g1 : ¬ (k : Int) < 2 := by omega
      have HAW := Lib.hid (awake_any wr (HT.out.below hB.out (Nat.le_refl _)))
      go_wp2_with (go_at_call 16; refine (HAW.out).mono ?_; rintro e w13 ⟨rfl, hB13⟩; have HB13 := Lib.hid (hB.out.trans (hB13.mono hB.out.size)); clear hB13)
      go_ret
      exact ⟨rfl, HB13.out⟩
end Go.Proofs.YtpknnjcbcndbbaaDoor
