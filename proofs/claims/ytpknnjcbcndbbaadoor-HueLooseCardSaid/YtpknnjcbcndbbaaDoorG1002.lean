/- The law's lists filled up: the walk. HueLists: the walk of the law. Colours from lists as the document reads them, in plain text. The document's test of a colour: a walk. The document's count of colours, of proper colours: a walk. The document's trial of all colours: walks. Colours from lists: the walk; the document's least number of colours. The document's least number of colours: a walk. -/
import Derived.Test.YtpknnjcbcndbbaaDoorG1001
import Derived.Test.YtpknnjcbcndbbaaDoorH01
import Derived.Test.YtpknnjcbcndbbaaDoorA15
import Derived.Test.YtpknnjcbcndbbaaDoorE01
set_option linter.unusedVariables false
set_option linter.unusedSimpArgs false
namespace Go.Proofs.YtpknnjcbcndbbaaDoor
open Go.RowKit Go.Shelf

theorem mod64 (z : Int) : ∃ x : Nat, x < 64 ∧ wrap64 ((IntKind.u64.wrap z).tmod 64) = (x : Int) := by
  have h0 : 0 ≤ IntKind.u64.wrap z := by rw [IntKind.wrap_u64]; omega
  rw [Int.tmod_eq_emod_of_nonneg h0]
  refine ⟨(IntKind.u64.wrap z % 64).toNat, by omega, ?_⟩
  unfold wrap64
  omega
theorem QRow.ne_boxN {W : World} {base : Nat} {e : TypeId} {size : Nat} {v : Value} {n : Nat} {xs : List Value} (hq : QRow W base e size v n xs) {b : Nat} {t : TypeId} {vs : Array Value} (hb : BoxN W b t vs) (hte : t ≠ e) : some b ≠ v.ownBlock := fun hv => by
  rcases hq.2 with ⟨rfl, _⟩ | ⟨g, o, cap, cur, rfl, _, e3, _⟩
  · cases hv
  · cases hv
    unfold BoxN at hb
    rw [hb] at e3
    cases e3
    exact hte rfl
theorem BoolRow.kept {W W' : World} {B s base : Nat} {v : Value} {n : Nat} {xs : List Value} (h : BoolRow W B s) (hq : QRow W base 3 1 v n xs) (hg : W.grownBy W' v.ownBlock) : BoolRow W' B s := by
  obtain ⟨vs, h1, h2⟩ := h
  exact ⟨vs, h1.kept hg (hq.ne_boxN h1 (by decide)), h2⟩
theorem BoolRow.alloc {W : World} {B s : Nat} (h : BoolRow W B s) (o : Obj) : BoolRow (W.alloc o) B s := by
  obtain ⟨vs, h1, h2⟩ := h
  exact ⟨vs, h1.alloc o, h2⟩
theorem iv_zl (s : Nat) : iv (bl s 64) = ivI (zz (zl s)) (zl s).length := by
  refine List.ext_getElem? fun i => ?_
  by_cases hi : i < (zl s).length
  · obtain ⟨h, e⟩ := zl_zz hi
    rw [ivI_get _ _ i hi, e]
    unfold iv
    rw [List.getElem?_map, List.getElem?_eq_getElem h]; rfl
  · rw [List.getElem?_eq_none (by rw [iv_length]; rw [zl_len] at hi; unfold cnt at hi; omega), List.getElem?_eq_none (by rw [ivI_len]; omega)]
set_option maxRecDepth 10000 in
theorem lit64 : (#[Value.bool false, Value.bool false, Value.bool false, Value.bool false, Value.bool false, Value.bool false, Value.bool false, Value.bool false, Value.bool false, Value.bool false, Value.bool false, Value.bool false, Value.bool false, Value.bool false, Value.bool false, Value.bool false, Value.bool false, Value.bool false, Value.bool false, Value.bool false, Value.bool false, Value.bool false, Value.bool false, Value.bool false, Value.bool false, Value.bool false, Value.bool false, Value.bool false, Value.bool false, Value.bool false, Value.bool false, Value.bool false, Value.bool false, Value.bool false, Value.bool false, Value.bool false, Value.bool false, Value.bool false, Value.bool false, Value.bool false, Value.bool false, Value.bool false, Value.bool false, Value.bool false, Value.bool false, Value.bool false, Value.bool false, Value.bool false, Value.bool false, Value.bool false, Value.bool false, Value.bool false, Value.bool false, Value.bool false, Value.bool false, Value.bool false, Value.bool false, Value.bool false, Value.bool false, Value.bool false, Value.bool false, Value.bool false, Value.bool false, Value.bool false] : Array Value) = Array.replicate 64 (Value.bool false) := rfl
theorem bool_new (W : World) : BoolRow (W.alloc (.cells #[Value.bool false, Value.bool false, Value.bool false, Value.bool false, Value.bool false, Value.bool false, Value.bool false, Value.bool false, Value.bool false, Value.bool false, Value.bool false, Value.bool false, Value.bool false, Value.bool false, Value.bool false, Value.bool false, Value.bool false, Value.bool false, Value.bool false, Value.bool false, Value.bool false, Value.bool false, Value.bool false, Value.bool false, Value.bool false, Value.bool false, Value.bool false, Value.bool false, Value.bool false, Value.bool false, Value.bool false, Value.bool false, Value.bool false, Value.bool false, Value.bool false, Value.bool false, Value.bool false, Value.bool false, Value.bool false, Value.bool false, Value.bool false, Value.bool false, Value.bool false, Value.bool false, Value.bool false, Value.bool false, Value.bool false, Value.bool false, Value.bool false, Value.bool false, Value.bool false, Value.bool false, Value.bool false, Value.bool false, Value.bool false, Value.bool false, Value.bool false, Value.bool false, Value.bool false, Value.bool false, Value.bool false, Value.bool false, Value.bool false, Value.bool false] 106)) W.heap.size 0 := by
  refine ⟨_, BoxN.new rfl, by rw [lit64]; simp, fun j hj => ?_⟩
  rw [lit64, Array.getElem?_replicate, if_pos hj, Nat.zero_testBit]
set_option maxRecDepth 100000 in
set_option maxHeartbeats 4000000 in
theorem filled_any (a : Option Addr) (cap m d : Nat) (xs : List (List Int)) (w : World) (h : ListsIn w a cap xs) (hm : m ≤ 1099511627776) (hd : d ≤ 16) :
    Calls Tryd.prog 42 #[.slice a xs.length cap, .int .i64 (m : Int), .int .i64 (d : Int)] w fun e w' => (∃ p c ls, e = .returned (.slice p m c) ∧ (∀ i, (ls i).length ≤ 64) ∧ (∀ i, i < m → Rise (ls i) ∧ d ≤ (ls i).length) ∧ LRow w' w.heap.size (.slice p m c) m ls) ∧ Below w.heap.size w w' := by
  obtain ⟨i0, hi0, hz0, hz1, hz2⟩ := info_parts info3
  obtain ⟨i1, hi1, hy0, hy1, hy2⟩ := info_parts info25
  have H := Lib.hid h
  have hfit := h.fits
  have hcm := h.capm
  unfold maxLen at hcm
  clear h
  obtain ⟨len, HL⟩ : ∃ len, Hid (xs.length = len) := ⟨_, rfl⟩
  rw [HL.out] at hfit ⊢
  go_enter Tryd.func42, Tryd.ntmps42
  go_upto_region 3 with (fail)
  go_loopw [7, 8] (fun s7 s8 wr => ∃ (i : Nat) (ls : Nat → List Int), i ≤ m ∧ s8 = .int .i64 (i : Int) ∧ Hid (∀ i, (ls i).length ≤ 64) ∧ Hid (∀ i', i' < i → Rise (ls i') ∧ d ≤ (ls i').length) ∧ Hid (LRow wr w.heap.size s7 i ls) ∧ Hid (Below w.heap.size w wr)) (fun _ s8 _ => m - (intOf s8).toNat)
  case atStart => exact ⟨0, fun _ => [], by omega, rfl, (fun _ => by simp), (fun i hi => by omega), LRow.nil _ _ _, Below.refl _ _⟩
  case round =>
    obtain ⟨i, ls, hi, rfl, hl7, hri, hR, hB⟩ := hrel
    obtain ⟨p3, c3, rfl⟩ := hR.out.isSlice
    have hsz := hB.out.size
    by_cases him : i < m
    · have g1 : (i : Int) < (m : Int) := by omega
      have g0 : (0 : Int) ≤ (i : Int) := by omega
      go_upto_region 6 with (fail)
      obtain ⟨B, hBd⟩ : ∃ B, Hid (B = wr.heap.size) := ⟨_, rfl⟩
      have hV0 := bool_new wr
      have hVB : Below wr.heap.size wr (wr.alloc (.cells #[Value.bool false, Value.bool false, Value.bool false, Value.bool false, Value.bool false, Value.bool false, Value.bool false, Value.bool false, Value.bool false, Value.bool false, Value.bool false, Value.bool false, Value.bool false, Value.bool false, Value.bool false, Value.bool false, Value.bool false, Value.bool false, Value.bool false, Value.bool false, Value.bool false, Value.bool false, Value.bool false, Value.bool false, Value.bool false, Value.bool false, Value.bool false, Value.bool false, Value.bool false, Value.bool false, Value.bool false, Value.bool false, Value.bool false, Value.bool false, Value.bool false, Value.bool false, Value.bool false, Value.bool false, Value.bool false, Value.bool false, Value.bool false, Value.bool false, Value.bool false, Value.bool false, Value.bool false, Value.bool false, Value.bool false, Value.bool false, Value.bool false, Value.bool false, Value.bool false, Value.bool false, Value.bool false, Value.bool false, Value.bool false, Value.bool false, Value.bool false, Value.bool false, Value.bool false, Value.bool false, Value.bool false, Value.bool false, Value.bool false, Value.bool false] 106)) := (Below.refl _ _).alloc (Nat.le_refl _) _
      rw [← hBd.out] at hV0 ⊢
      generalize (wr.alloc (.cells #[Value.bool false, Value.bool false, Value.bool false, Value.bool false, Value.bool false, Value.bool false, Value.bool false, Value.bool false, Value.bool false, Value.bool false, Value.bool false, Value.bool false, Value.bool false, Value.bool false, Value.bool false, Value.bool false, Value.bool false, Value.bool false, Value.bool false, Value.bool false, Value.bool false, Value.bool false, Value.bool false, Value.bool false, Value.bool false, Value.bool false, Value.bool false, Value.bool false, Value.bool false, Value.bool false, Value.bool false, Value.bool false, Value.bool false, Value.bool false, Value.bool false, Value.bool false, Value.bool false, Value.bool false, Value.bool false, Value.bool false, Value.bool false, Value.bool false, Value.bool false, Value.bool false, Value.bool false, Value.bool false, Value.bool false, Value.bool false, Value.bool false, Value.bool false, Value.bool false, Value.bool false, Value.bool false, Value.bool false, Value.bool false, Value.bool false, Value.bool false, Value.bool false, Value.bool false, Value.bool false, Value.bool false, Value.bool false, Value.bool false, Value.bool false] 106)) = V at *
      have HV0 := Lib.hid hV0
      have HVB := Lib.hid hVB
      clear hV0 hVB
      obtain ⟨wo, hwo⟩ : ∃ wo, Hid (wo = wr) := ⟨_, rfl⟩
      rw [← hwo.out] at HVB hB hR hsz hBd
      clear hwo
      go_upto_region 8 with (fail)
      go_loopw [10, 11] (fun s10 s11 wr2 => ∃ s k : Nat, k ≤ 20 ∧ s11 = .int .i64 (k : Int) ∧ s10 = .int .i64 (cnt s : Nat) ∧ Hid (BoolRow wr2 B s) ∧ Hid (Below wo.heap.size wo wr2)) (fun _ s11 _ => 40 - (intOf s11).toNat)
      case atStart => exact ⟨0, 0, by omega, rfl, by rw [cnt_zero]; rfl, HV0, HVB⟩
      case round =>
        clear HV0 HVB
        obtain ⟨s, k, hk, rfl, rfl, hbr, hB2⟩ := hrel
        by_cases hil : i < len
        · have f1 : (i : Int) < (len : Int) := by omega
          obtain ⟨b, o, rfl, hb, hc⟩ := (H.out.g (by rw [HL.out]; omega))
          obtain ⟨p, c, h1, h2⟩ := hc i (by rw [HL.out]; exact hil)
          obtain ⟨l, hl⟩ : ∃ l, Hid (l = xs[i]?.getD []) := ⟨_, rfl⟩
          rw [← hl.out] at h1 h2
          have hBw : Below w.heap.size w wr := hB.out.trans (hB2.out.mono hB.out.size)
          have k1 := (hBw.cell (p := ⟨b, o + i, none⟩) hb).trans h1
          have HSL := Lib.hid (h2.g.below hBw (Nat.le_refl _))
          have hfl := h2.fits
          have hcl := h2.capm
          unfold maxLen at hcl
          clear hc h1 h2 hBw
          generalize l.length = ll at *
          by_cases hkl : k < ll
          · have f2 : (k : Int) < (ll : Int) := by omega
            have f3 : (0 : Int) ≤ (k : Int) := by omega
            by_cases hk20 : k < 20
            · have f4 : (k : Int) < 20 := by omega
              obtain ⟨b2, o2, rfl, hb2, hc2⟩ := HSL.out (by omega)
              have k2 := hc2 k hkl
              clear hc2
              obtain ⟨x, hx64, hx⟩ := mod64 (l[k]?.getD 0)
              go_upto_region 11 with (fail)
              rw [hx]
              clear k1 k2 hx
              have k3 := hbr.out.cell hx64
              have hfz := hbr.out.frozen x
              have hxi : (x : Int) < 64 := by omega
              have hx0 : (0 : Int) ≤ (x : Int) := by omega
              cases hbit : s.testBit x with
              | true =>
                rw [hbit] at k3
                go_wp2
                exact ⟨⟨s, k + 1, by omega, int_eq (by omega), rfl, hbr, hB2⟩, by simp [intOf]; omega⟩
              | false =>
                rw [hbit] at k3
                have hcn := cnt_pw hbit hx64
                have HBS := Lib.hid (hbr.out.set hx64)
                have HBN : Hid (Below wo.heap.size wo (wr.setCell ⟨B, x, none⟩ (.bool true))) := hB2.out.setCell (by rw [hBd.out]; exact Nat.le_refl _) _
                have hcl := cnt_le s
                go_wp2
                exact ⟨⟨s ||| pw x, k + 1, by omega, int_eq (by omega), int_eq (by rw [hcn]; omega), HBS, HBN⟩, by simp [intOf]; omega⟩
            · have f4 : ¬ (k : Int) < 20 := by omega
              go_upto_region 15 with (fail)
              obtain ⟨r, hr⟩ : ∃ r, Hid (r = i % 3) := ⟨_, rfl⟩
              have hr2 : r ≤ 2 := by rw [hr.out]; omega
              rw [show (i : Int) % 3 = (r : Int) by rw [hr.out]; simp]
              go_loopw [10, 13] (fun s10 s13 wr2 => ∃ s x : Nat, r ≤ x ∧ x ≤ 40 ∧ s13 = .int .i64 (x : Int) ∧ s10 = .int .i64 (cnt s : Nat) ∧ Hid (∀ y, r ≤ y → y < x → s.testBit y = true) ∧ Hid (BoolRow wr2 B s) ∧ Hid (Below wo.heap.size wo wr2)) (fun _ s13 _ => 80 - (intOf s13).toNat)
              case atStart => exact ⟨s, r, by omega, by omega, rfl, rfl, (fun y h1 h2 => by omega), hbr, hB2⟩
              case round =>
                clear hbr hB2 f1 f2 f3 f4 k1 HSL hfl hcl
                obtain ⟨s, x, hrx, hx4, rfl, rfl, hrun, hbr, hB2⟩ := hrel
                have hcl := cnt_le s
                by_cases hcd : cnt s < d
                · have e1 : (cnt s : Int) < (d : Int) := by omega
                  have hx18 := cnt_run hrx (by omega) hrun.out
                  have hx64 : x < 64 := by omega
                  have k3 := hbr.out.cell hx64
                  have hfz := hbr.out.frozen x
                  have hxi : (x : Int) < 64 := by omega
                  have hx0 : (0 : Int) ≤ (x : Int) := by omega
                  cases hbit : s.testBit x with
                  | true =>
                    have HRN : Hid (∀ y, r ≤ y → y < x + 1 → s.testBit y = true) := fun y h1 h2 => by
                      by_cases e : y = x
                      · subst e; exact hbit
                      · exact hrun.out y h1 (by omega)
                    rw [hbit] at k3
                    go_wp2
                    exact ⟨⟨s, x + 1, by omega, by omega, int_eq (by omega), rfl, HRN, hbr, hB2⟩, by simp [intOf]; omega⟩
                  | false =>
                    have HRN : Hid (∀ y, r ≤ y → y < x + 1 → (s ||| pw x).testBit y = true) := fun y h1 h2 => by
                      rw [Nat.testBit_or, pw, Nat.testBit_two_pow]
                      by_cases e : y = x
                      · subst e; simp
                      · rw [hrun.out y h1 (by omega)]; rfl
                    rw [hbit] at k3
                    have hcn := cnt_pw hbit hx64
                    have HBS := Lib.hid (hbr.out.set hx64)
                    have HBN : Hid (Below wo.heap.size wo (wr.setCell ⟨B, x, none⟩ (.bool true))) := hB2.out.setCell (by rw [hBd.out]; exact Nat.le_refl _) _
                    go_wp2
                    exact ⟨⟨s ||| pw x, x + 1, by omega, by omega, int_eq (by omega), int_eq (by rw [hcn]; omega), HRN, HBS, HBN⟩, by simp [intOf]; omega⟩
                · have e1 : ¬ (cnt s : Int) < (d : Int) := by omega
                  have HDC : Hid (d ≤ cnt s) := by rw [Hid]; omega
                  go_upto_region 22 with (fail)
                  go_loopw [14, 15] (fun s14 s15 wr2 => ∃ q : Nat, q ≤ 64 ∧ s15 = .int .i64 (q : Int) ∧ Hid (QRow wr2 wo.heap.size 3 1 s14 (bl s q).length (iv (bl s q))) ∧ Hid (BoolRow wr2 B s) ∧ Hid (Below wo.heap.size wo wr2)) (fun _ s15 _ => 80 - (intOf s15).toNat)
                  case atStart => exact ⟨0, by omega, rfl, QRow.nil _ _ _ _, hbr, hB2⟩
                  case round =>
                    clear hbr hB2 hcd e1 hrun
                    obtain ⟨q, hq, rfl, hQ, hbr, hB2⟩ := hrel
                    obtain ⟨p4, c4, rfl⟩ := hQ.out.isSlice
                    have hqs := bl_len_le s q
                    have hsz2 := hB2.out.size
                    by_cases hq64 : q < 64
                    · have e2 : (q : Int) ≤ 63 := by omega
                      have e3 : (q : Int) < 64 := by omega
                      have e4 : (0 : Int) ≤ (q : Int) := by omega
                      have k3 := hbr.out.cell hq64
                      cases hbit : s.testBit q with
                      | false =>
                        have hbe : bl s (q + 1) = bl s q := by rw [bl_succ, hbit]; simp
                        rw [← hbe] at hQ
                        rw [hbit] at k3
                        rw [← hbe]
                        go_wp2
                        exact ⟨⟨q + 1, by omega, int_eq (by omega), hQ, hbr, hB2⟩, by simp [intOf]; omega⟩
                      | true =>
                        have hbe : bl s (q + 1) = bl s q ++ [q] := by rw [bl_succ, hbit]; simp
                        have HBE : Hid ((bl s (q + 1)).length = (bl s q).length + 1) := by rw [Hid, hbe, List.length_append]; rfl
                        have HBI : Hid (iv (bl s (q + 1)) = iv (bl s q) ++ [.int .i64 (q : Int)]) := by rw [Hid, hbe, iv_snoc]
                        rw [hbit] at k3
                        have HQA : Hid (QRow (wr.alloc (.cells #[.int .i64 (q : Int)] 3)) wo.heap.size 3 1 (.slice p4 (bl s q).length c4) (bl s q).length (iv (bl s q))) := hQ.out.alloc _
                        have HBA : Hid (BoolRow (wr.alloc (.cells #[.int .i64 (q : Int)] 3)) B s) := hbr.out.alloc _
                        have HLT := Lib.hid hQ.out.lt
                        clear hbe
                        generalize bl s q = bq at *
                        go_wp2_with (at_builtin; go_must (refine wpList_append_q _ rfl (.tmp 80) (.tmp 82) 25 rfl wo.heap.size 3 i0 (.int .i64 0) 1 8 Tryd.underlying25 hi0 hz0 hz1 hz2 rfl (by decide) _ bq.length (iv bq) rfl HQA.out ⟨_, 0, none⟩ 1 1 [.int .i64 (q : Int)] rfl rfl (cells_new1 _ _ _) (by simp [Value.oneCell']) (by unfold maxLen; omega) (by omega) (by simp; omega) ?_); intro v7 w7 hq7 hg7 ho7; have HQ7 : Hid (QRow w7 wo.heap.size 3 1 v7 (bl s (q + 1)).length (iv (bl s (q + 1)))) := (by rw [HBE.out, HBI.out]; exact hq7); have HBR7 := Lib.hid (HBA.out.kept HQA.out hg7); have HB7 : Hid (Below wo.heap.size wo w7) := Below.grown (hB2.out.alloc hsz2 _) hg7 (by simp; omega) (fun kk e => (HLT.out kk e).1); clear hq7 hg7 ho7)
                        exact ⟨⟨q + 1, by omega, int_eq (by omega), HQ7, HBR7, HB7⟩, by simp [intOf]; omega⟩
                    · have e2 : ¬ (q : Int) ≤ 63 := by omega
                      have hqe : q = 64 := by omega
                      rw [hqe] at hQ ⊢
                      have HZL := Lib.hid (zl_len s)
                      have HQZ : Hid (QRow wr wo.heap.size 3 1 (.slice p4 (zl s).length c4) (zl s).length (ivI (zz (zl s)) (zl s).length)) := by
                        have := hQ.out
                        rw [iv_zl, show (bl s 64).length = (zl s).length from (zl_len s).symm] at this
                        exact this
                      rw [show (bl s 64).length = (zl s).length from (zl_len s).symm]
                      have HRZ : Hid (Rise (zl s) ∧ d ≤ (zl s).length) := ⟨zl_rise s, by rw [zl_len]; exact HDC.out⟩
                      have HL64 : Hid ((zl s).length ≤ 64) := by rw [zl_len]; exact hcl
                      generalize zl s = t at *
                      clear hqe hQ hq64 hqs HZL HDC
                      have HR4 := Lib.hid (hR.out.below hB2.out (Nat.le_refl _))
                      obtain ⟨ys, hy, hz⟩ := HR4.out
                      have HYA : Hid (QRow (wr.alloc (.cells #[.slice p4 t.length c4] 25)) w.heap.size 25 1 (.slice p3 i c3) i ys) := hy.alloc _
                      have HQA : Hid (QRow (wr.alloc (.cells #[.slice p4 t.length c4] 25)) w.heap.size 3 1 (.slice p4 t.length c4) t.length (ivI (zz t) t.length)) := (HQZ.out.alloc _).mono hsz
                      have HZA : Hid (∀ i', i' < i → ∃ p c, ys[i']? = some (.slice p (ls i').length c) ∧ QRow (wr.alloc (.cells #[.slice p4 t.length c4] 25)) w.heap.size 3 1 (.slice p (ls i').length c) (ls i').length (ivI (zz (ls i')) (ls i').length)) := (fun i' hi' => by obtain ⟨p, c, a1, a2⟩ := hz i' hi'; exact ⟨p, c, a1, a2.alloc _⟩)
                      have HLT := Lib.hid HYA.out.lt
                      have HB4 := Lib.hid (hB.out.trans (hB2.out.mono hB.out.size))
                      have hsz4 := HB4.out.size
                      have HL7 : Hid (∀ i', ((fun i' => if i' = i then t else ls i') i').length ≤ 64) := fun i' => by
                        show (if i' = i then t else ls i').length ≤ 64
                        by_cases e : i' = i
                        · rw [if_pos e]; exact HL64.out
                        · rw [if_neg e]; exact hl7.out i'
                      have HRI : Hid (∀ j, j < i + 1 → Rise ((fun i' => if i' = i then t else ls i') j) ∧ d ≤ ((fun i' => if i' = i then t else ls i') j).length) := fun j hj => by
                        show Rise (if j = i then t else ls j) ∧ d ≤ (if j = i then t else ls j).length
                        by_cases e : j = i
                        · rw [if_pos e]; exact HRZ.out
                        · rw [if_neg e]; exact hri.out j (by omega)
                      clear hy hz HR4 HQZ
                      go_wp2_with (at_builtin; go_must (refine wpList_append_q _ rfl (.tmp 84) (.tmp 86) 58 rfl w.heap.size 25 i1 (.slice none 0 0) 1 24 Tryd.underlying58 hi1 hy0 hy1 hy2 rfl (by decide) _ i ys rfl HYA.out ⟨_, 0, none⟩ 1 1 [.slice p4 t.length c4] rfl rfl (cells_new1 _ _ _) (by simp [Value.oneCell']) (by unfold maxLen; omega) (by omega) (by simp; omega) ?_); intro v5 w5 hq5 hg5 ho5; have HR5 : Hid (LRow w5 w.heap.size v5 (i + 1) (fun i' => if i' = i then t else ls i')) := LRow.push HZA.out HYA.out HQA.out hg5 hq5; have HB5 : Hid (Below w.heap.size w w5) := Below.grown (HB4.out.alloc hsz4 _) hg5 (by simp; omega) (fun kk e => (HLT.out kk e).1); clear hq5 hg5 ho5)
                      exact ⟨⟨i + 1, _, by omega, int_eq (by omega), HL7, HRI, HR5, HB5⟩, by simp [intOf]; omega⟩
          · have f2 : ¬ (k : Int) < (ll : Int) := by omega
            go_upto_region 15 with (fail)
            obtain ⟨r, hr⟩ : ∃ r, Hid (r = i % 3) := ⟨_, rfl⟩
            have hr2 : r ≤ 2 := by rw [hr.out]; omega
            rw [show (i : Int) % 3 = (r : Int) by rw [hr.out]; simp]
            go_loopw [10, 13] (fun s10 s13 wr2 => ∃ s x : Nat, r ≤ x ∧ x ≤ 40 ∧ s13 = .int .i64 (x : Int) ∧ s10 = .int .i64 (cnt s : Nat) ∧ Hid (∀ y, r ≤ y → y < x → s.testBit y = true) ∧ Hid (BoolRow wr2 B s) ∧ Hid (Below wo.heap.size wo wr2)) (fun _ s13 _ => 80 - (intOf s13).toNat)
            case atStart => exact ⟨s, r, by omega, by omega, rfl, rfl, (fun y h1 h2 => by omega), hbr, hB2⟩
            case round =>
              clear hbr hB2 f1 f2 k1 HSL hfl hcl
              obtain ⟨s, x, hrx, hx4, rfl, rfl, hrun, hbr, hB2⟩ := hrel
              have hcl := cnt_le s
              by_cases hcd : cnt s < d
              · have e1 : (cnt s : Int) < (d : Int) := by omega
                have hx18 := cnt_run hrx (by omega) hrun.out
                have hx64 : x < 64 := by omega
                have k3 := hbr.out.cell hx64
                have hfz := hbr.out.frozen x
                have hxi : (x : Int) < 64 := by omega
                have hx0 : (0 : Int) ≤ (x : Int) := by omega
                cases hbit : s.testBit x with
                | true =>
                  have HRN : Hid (∀ y, r ≤ y → y < x + 1 → s.testBit y = true) := fun y h1 h2 => by
                    by_cases e : y = x
                    · subst e; exact hbit
                    · exact hrun.out y h1 (by omega)
                  rw [hbit] at k3
                  go_wp2
                  exact ⟨⟨s, x + 1, by omega, by omega, int_eq (by omega), rfl, HRN, hbr, hB2⟩, by simp [intOf]; omega⟩
                | false =>
                  have HRN : Hid (∀ y, r ≤ y → y < x + 1 → (s ||| pw x).testBit y = true) := fun y h1 h2 => by
                    rw [Nat.testBit_or, pw, Nat.testBit_two_pow]
                    by_cases e : y = x
                    · subst e; simp
                    · rw [hrun.out y h1 (by omega)]; rfl
                  rw [hbit] at k3
                  have hcn := cnt_pw hbit hx64
                  have HBS := Lib.hid (hbr.out.set hx64)
                  have HBN : Hid (Below wo.heap.size wo (wr.setCell ⟨B, x, none⟩ (.bool true))) := hB2.out.setCell (by rw [hBd.out]; exact Nat.le_refl _) _
                  go_wp2
                  exact ⟨⟨s ||| pw x, x + 1, by omega, by omega, int_eq (by omega), int_eq (by rw [hcn]; omega), HRN, HBS, HBN⟩, by simp [intOf]; omega⟩
              · have e1 : ¬ (cnt s : Int) < (d : Int) := by omega
                have HDC : Hid (d ≤ cnt s) := by rw [Hid]; omega
                go_upto_region 22 with (fail)
                go_loopw [14, 15] (fun s14 s15 wr2 => ∃ q : Nat, q ≤ 64 ∧ s15 = .int .i64 (q : Int) ∧ Hid (QRow wr2 wo.heap.size 3 1 s14 (bl s q).length (iv (bl s q))) ∧ Hid (BoolRow wr2 B s) ∧ Hid (Below wo.heap.size wo wr2)) (fun _ s15 _ => 80 - (intOf s15).toNat)
                case atStart => exact ⟨0, by omega, rfl, QRow.nil _ _ _ _, hbr, hB2⟩
                case round =>
                  clear hbr hB2 hcd e1 hrun
                  obtain ⟨q, hq, rfl, hQ, hbr, hB2⟩ := hrel
                  obtain ⟨p4, c4, rfl⟩ := hQ.out.isSlice
                  have hqs := bl_len_le s q
                  have hsz2 := hB2.out.size
                  by_cases hq64 : q < 64
                  · have e2 : (q : Int) ≤ 63 := by omega
                    have e3 : (q : Int) < 64 := by omega
                    have e4 : (0 : Int) ≤ (q : Int) := by omega
                    have k3 := hbr.out.cell hq64
                    cases hbit : s.testBit q with
                    | false =>
                      have hbe : bl s (q + 1) = bl s q := by rw [bl_succ, hbit]; simp
                      rw [← hbe] at hQ
                      rw [hbit] at k3
                      rw [← hbe]
                      go_wp2
                      exact ⟨⟨q + 1, by omega, int_eq (by omega), hQ, hbr, hB2⟩, by simp [intOf]; omega⟩
                    | true =>
                      have hbe : bl s (q + 1) = bl s q ++ [q] := by rw [bl_succ, hbit]; simp
                      have HBE : Hid ((bl s (q + 1)).length = (bl s q).length + 1) := by rw [Hid, hbe, List.length_append]; rfl
                      have HBI : Hid (iv (bl s (q + 1)) = iv (bl s q) ++ [.int .i64 (q : Int)]) := by rw [Hid, hbe, iv_snoc]
                      rw [hbit] at k3
                      have HQA : Hid (QRow (wr.alloc (.cells #[.int .i64 (q : Int)] 3)) wo.heap.size 3 1 (.slice p4 (bl s q).length c4) (bl s q).length (iv (bl s q))) := hQ.out.alloc _
                      have HBA : Hid (BoolRow (wr.alloc (.cells #[.int .i64 (q : Int)] 3)) B s) := hbr.out.alloc _
                      have HLT := Lib.hid hQ.out.lt
                      clear hbe
                      generalize bl s q = bq at *
                      go_wp2_with (at_builtin; go_must (refine wpList_append_q _ rfl (.tmp 80) (.tmp 82) 25 rfl wo.heap.size 3 i0 (.int .i64 0) 1 8 Tryd.underlying25 hi0 hz0 hz1 hz2 rfl (by decide) _ bq.length (iv bq) rfl HQA.out ⟨_, 0, none⟩ 1 1 [.int .i64 (q : Int)] rfl rfl (cells_new1 _ _ _) (by simp [Value.oneCell']) (by unfold maxLen; omega) (by omega) (by simp; omega) ?_); intro v7 w7 hq7 hg7 ho7; have HQ7 : Hid (QRow w7 wo.heap.size 3 1 v7 (bl s (q + 1)).length (iv (bl s (q + 1)))) := (by rw [HBE.out, HBI.out]; exact hq7); have HBR7 := Lib.hid (HBA.out.kept HQA.out hg7); have HB7 : Hid (Below wo.heap.size wo w7) := Below.grown (hB2.out.alloc hsz2 _) hg7 (by simp; omega) (fun kk e => (HLT.out kk e).1); clear hq7 hg7 ho7)
                      exact ⟨⟨q + 1, by omega, int_eq (by omega), HQ7, HBR7, HB7⟩, by simp [intOf]; omega⟩
                  · have e2 : ¬ (q : Int) ≤ 63 := by omega
                    have hqe : q = 64 := by omega
                    rw [hqe] at hQ ⊢
                    have HZL := Lib.hid (zl_len s)
                    have HQZ : Hid (QRow wr wo.heap.size 3 1 (.slice p4 (zl s).length c4) (zl s).length (ivI (zz (zl s)) (zl s).length)) := by
                      have := hQ.out
                      rw [iv_zl, show (bl s 64).length = (zl s).length from (zl_len s).symm] at this
                      exact this
                    rw [show (bl s 64).length = (zl s).length from (zl_len s).symm]
                    have HRZ : Hid (Rise (zl s) ∧ d ≤ (zl s).length) := ⟨zl_rise s, by rw [zl_len]; exact HDC.out⟩
                    have HL64 : Hid ((zl s).length ≤ 64) := by rw [zl_len]; exact hcl
                    generalize zl s = t at *
                    clear hqe hQ hq64 hqs HZL HDC
                    have HR4 := Lib.hid (hR.out.below hB2.out (Nat.le_refl _))
                    obtain ⟨ys, hy, hz⟩ := HR4.out
                    have HYA : Hid (QRow (wr.alloc (.cells #[.slice p4 t.length c4] 25)) w.heap.size 25 1 (.slice p3 i c3) i ys) := hy.alloc _
                    have HQA : Hid (QRow (wr.alloc (.cells #[.slice p4 t.length c4] 25)) w.heap.size 3 1 (.slice p4 t.length c4) t.length (ivI (zz t) t.length)) := (HQZ.out.alloc _).mono hsz
                    have HZA : Hid (∀ i', i' < i → ∃ p c, ys[i']? = some (.slice p (ls i').length c) ∧ QRow (wr.alloc (.cells #[.slice p4 t.length c4] 25)) w.heap.size 3 1 (.slice p (ls i').length c) (ls i').length (ivI (zz (ls i')) (ls i').length)) := (fun i' hi' => by obtain ⟨p, c, a1, a2⟩ := hz i' hi'; exact ⟨p, c, a1, a2.alloc _⟩)
                    have HLT := Lib.hid HYA.out.lt
                    have HB4 := Lib.hid (hB.out.trans (hB2.out.mono hB.out.size))
                    have hsz4 := HB4.out.size
                    have HL7 : Hid (∀ i', ((fun i' => if i' = i then t else ls i') i').length ≤ 64) := fun i' => by
                      show (if i' = i then t else ls i').length ≤ 64
                      by_cases e : i' = i
                      · rw [if_pos e]; exact HL64.out
                      · rw [if_neg e]; exact hl7.out i'
                    have HRI : Hid (∀ j, j < i + 1 → Rise ((fun i' => if i' = i then t else ls i') j) ∧ d ≤ ((fun i' => if i' = i then t else ls i') j).length) := fun j hj => by
                      show Rise (if j = i then t else ls j) ∧ d ≤ (if j = i then t else ls j).length
                      by_cases e : j = i
                      · rw [if_pos e]; exact HRZ.out
                      · rw [if_neg e]; exact hri.out j (by omega)
                    clear hy hz HR4 HQZ
                    go_wp2_with (at_builtin; go_must (refine wpList_append_q _ rfl (.tmp 84) (.tmp 86) 58 rfl w.heap.size 25 i1 (.slice none 0 0) 1 24 Tryd.underlying58 hi1 hy0 hy1 hy2 rfl (by decide) _ i ys rfl HYA.out ⟨_, 0, none⟩ 1 1 [.slice p4 t.length c4] rfl rfl (cells_new1 _ _ _) (by simp [Value.oneCell']) (by unfold maxLen; omega) (by omega) (by simp; omega) ?_); intro v5 w5 hq5 hg5 ho5; have HR5 : Hid (LRow w5 w.heap.size v5 (i + 1) (fun i' => if i' = i then t else ls i')) := LRow.push HZA.out HYA.out HQA.out hg5 hq5; have HB5 : Hid (Below w.heap.size w w5) := Below.grown (HB4.out.alloc hsz4 _) hg5 (by simp; omega) (fun kk e => (HLT.out kk e).1); clear hq5 hg5 ho5)
                    exact ⟨⟨i + 1, _, by omega, int_eq (by omega), HL7, HRI, HR5, HB5⟩, by simp [intOf]; omega⟩
        · have f1 : ¬ (i : Int) < (len : Int) := by omega
          go_upto_region 15 with (fail)
          obtain ⟨r, hr⟩ : ∃ r, Hid (r = i % 3) := ⟨_, rfl⟩
          have hr2 : r ≤ 2 := by rw [hr.out]; omega
          rw [show (i : Int) % 3 = (r : Int) by rw [hr.out]; simp]
          go_loopw [10, 13] (fun s10 s13 wr2 => ∃ s x : Nat, r ≤ x ∧ x ≤ 40 ∧ s13 = .int .i64 (x : Int) ∧ s10 = .int .i64 (cnt s : Nat) ∧ Hid (∀ y, r ≤ y → y < x → s.testBit y = true) ∧ Hid (BoolRow wr2 B s) ∧ Hid (Below wo.heap.size wo wr2)) (fun _ s13 _ => 80 - (intOf s13).toNat)
          case atStart => exact ⟨s, r, by omega, by omega, rfl, rfl, (fun y h1 h2 => by omega), hbr, hB2⟩
          case round =>
            clear hbr hB2 f1
            obtain ⟨s, x, hrx, hx4, rfl, rfl, hrun, hbr, hB2⟩ := hrel
            have hcl := cnt_le s
            by_cases hcd : cnt s < d
            · have e1 : (cnt s : Int) < (d : Int) := by omega
              have hx18 := cnt_run hrx (by omega) hrun.out
              have hx64 : x < 64 := by omega
              have k3 := hbr.out.cell hx64
              have hfz := hbr.out.frozen x
              have hxi : (x : Int) < 64 := by omega
              have hx0 : (0 : Int) ≤ (x : Int) := by omega
              cases hbit : s.testBit x with
              | true =>
                have HRN : Hid (∀ y, r ≤ y → y < x + 1 → s.testBit y = true) := fun y h1 h2 => by
                  by_cases e : y = x
                  · subst e; exact hbit
                  · exact hrun.out y h1 (by omega)
                rw [hbit] at k3
                go_wp2
                exact ⟨⟨s, x + 1, by omega, by omega, int_eq (by omega), rfl, HRN, hbr, hB2⟩, by simp [intOf]; omega⟩
              | false =>
                have HRN : Hid (∀ y, r ≤ y → y < x + 1 → (s ||| pw x).testBit y = true) := fun y h1 h2 => by
                  rw [Nat.testBit_or, pw, Nat.testBit_two_pow]
                  by_cases e : y = x
                  · subst e; simp
                  · rw [hrun.out y h1 (by omega)]; rfl
                rw [hbit] at k3
                have hcn := cnt_pw hbit hx64
                have HBS := Lib.hid (hbr.out.set hx64)
                have HBN : Hid (Below wo.heap.size wo (wr.setCell ⟨B, x, none⟩ (.bool true))) := hB2.out.setCell (by rw [hBd.out]; exact Nat.le_refl _) _
                go_wp2
                exact ⟨⟨s ||| pw x, x + 1, by omega, by omega, int_eq (by omega), int_eq (by rw [hcn]; omega), HRN, HBS, HBN⟩, by simp [intOf]; omega⟩
            · have e1 : ¬ (cnt s : Int) < (d : Int) := by omega
              have HDC : Hid (d ≤ cnt s) := by rw [Hid]; omega
              go_upto_region 22 with (fail)
              go_loopw [14, 15] (fun s14 s15 wr2 => ∃ q : Nat, q ≤ 64 ∧ s15 = .int .i64 (q : Int) ∧ Hid (QRow wr2 wo.heap.size 3 1 s14 (bl s q).length (iv (bl s q))) ∧ Hid (BoolRow wr2 B s) ∧ Hid (Below wo.heap.size wo wr2)) (fun _ s15 _ => 80 - (intOf s15).toNat)
              case atStart => exact ⟨0, by omega, rfl, QRow.nil _ _ _ _, hbr, hB2⟩
              case round =>
                clear hbr hB2 hcd e1 hrun
                obtain ⟨q, hq, rfl, hQ, hbr, hB2⟩ := hrel
                obtain ⟨p4, c4, rfl⟩ := hQ.out.isSlice
                have hqs := bl_len_le s q
                have hsz2 := hB2.out.size
                by_cases hq64 : q < 64
                · have e2 : (q : Int) ≤ 63 := by omega
                  have e3 : (q : Int) < 64 := by omega
                  have e4 : (0 : Int) ≤ (q : Int) := by omega
                  have k3 := hbr.out.cell hq64
                  cases hbit : s.testBit q with
                  | false =>
                    have hbe : bl s (q + 1) = bl s q := by rw [bl_succ, hbit]; simp
                    rw [← hbe] at hQ
                    rw [hbit] at k3
                    rw [← hbe]
                    go_wp2
                    exact ⟨⟨q + 1, by omega, int_eq (by omega), hQ, hbr, hB2⟩, by simp [intOf]; omega⟩
                  | true =>
                    have hbe : bl s (q + 1) = bl s q ++ [q] := by rw [bl_succ, hbit]; simp
                    have HBE : Hid ((bl s (q + 1)).length = (bl s q).length + 1) := by rw [Hid, hbe, List.length_append]; rfl
                    have HBI : Hid (iv (bl s (q + 1)) = iv (bl s q) ++ [.int .i64 (q : Int)]) := by rw [Hid, hbe, iv_snoc]
                    rw [hbit] at k3
                    have HQA : Hid (QRow (wr.alloc (.cells #[.int .i64 (q : Int)] 3)) wo.heap.size 3 1 (.slice p4 (bl s q).length c4) (bl s q).length (iv (bl s q))) := hQ.out.alloc _
                    have HBA : Hid (BoolRow (wr.alloc (.cells #[.int .i64 (q : Int)] 3)) B s) := hbr.out.alloc _
                    have HLT := Lib.hid hQ.out.lt
                    clear hbe
                    generalize bl s q = bq at *
                    go_wp2_with (at_builtin; go_must (refine wpList_append_q _ rfl (.tmp 80) (.tmp 82) 25 rfl wo.heap.size 3 i0 (.int .i64 0) 1 8 Tryd.underlying25 hi0 hz0 hz1 hz2 rfl (by decide) _ bq.length (iv bq) rfl HQA.out ⟨_, 0, none⟩ 1 1 [.int .i64 (q : Int)] rfl rfl (cells_new1 _ _ _) (by simp [Value.oneCell']) (by unfold maxLen; omega) (by omega) (by simp; omega) ?_); intro v7 w7 hq7 hg7 ho7; have HQ7 : Hid (QRow w7 wo.heap.size 3 1 v7 (bl s (q + 1)).length (iv (bl s (q + 1)))) := (by rw [HBE.out, HBI.out]; exact hq7); have HBR7 := Lib.hid (HBA.out.kept HQA.out hg7); have HB7 : Hid (Below wo.heap.size wo w7) := Below.grown (hB2.out.alloc hsz2 _) hg7 (by simp; omega) (fun kk e => (HLT.out kk e).1); clear hq7 hg7 ho7)
                    exact ⟨⟨q + 1, by omega, int_eq (by omega), HQ7, HBR7, HB7⟩, by simp [intOf]; omega⟩
                · have e2 : ¬ (q : Int) ≤ 63 := by omega
                  have hqe : q = 64 := by omega
                  rw [hqe] at hQ ⊢
                  have HZL := Lib.hid (zl_len s)
                  have HQZ : Hid (QRow wr wo.heap.size 3 1 (.slice p4 (zl s).length c4) (zl s).length (ivI (zz (zl s)) (zl s).length)) := by
                    have := hQ.out
                    rw [iv_zl, show (bl s 64).length = (zl s).length from (zl_len s).symm] at this
                    exact this
                  rw [show (bl s 64).length = (zl s).length from (zl_len s).symm]
                  have HRZ : Hid (Rise (zl s) ∧ d ≤ (zl s).length) := ⟨zl_rise s, by rw [zl_len]; exact HDC.out⟩
                  have HL64 : Hid ((zl s).length ≤ 64) := by rw [zl_len]; exact hcl
                  generalize zl s = t at *
                  clear hqe hQ hq64 hqs HZL HDC
                  have HR4 := Lib.hid (hR.out.below hB2.out (Nat.le_refl _))
                  obtain ⟨ys, hy, hz⟩ := HR4.out
                  have HYA : Hid (QRow (wr.alloc (.cells #[.slice p4 t.length c4] 25)) w.heap.size 25 1 (.slice p3 i c3) i ys) := hy.alloc _
                  have HQA : Hid (QRow (wr.alloc (.cells #[.slice p4 t.length c4] 25)) w.heap.size 3 1 (.slice p4 t.length c4) t.length (ivI (zz t) t.length)) := (HQZ.out.alloc _).mono hsz
                  have HZA : Hid (∀ i', i' < i → ∃ p c, ys[i']? = some (.slice p (ls i').length c) ∧ QRow (wr.alloc (.cells #[.slice p4 t.length c4] 25)) w.heap.size 3 1 (.slice p (ls i').length c) (ls i').length (ivI (zz (ls i')) (ls i').length)) := (fun i' hi' => by obtain ⟨p, c, a1, a2⟩ := hz i' hi'; exact ⟨p, c, a1, a2.alloc _⟩)
                  have HLT := Lib.hid HYA.out.lt
                  have HB4 := Lib.hid (hB.out.trans (hB2.out.mono hB.out.size))
                  have hsz4 := HB4.out.size
                  have HL7 : Hid (∀ i', ((fun i' => if i' = i then t else ls i') i').length ≤ 64) := fun i' => by
                    show (if i' = i then t else ls i').length ≤ 64
                    by_cases e : i' = i
                    · rw [if_pos e]; exact HL64.out
                    · rw [if_neg e]; exact hl7.out i'
                  have HRI : Hid (∀ j, j < i + 1 → Rise ((fun i' => if i' = i then t else ls i') j) ∧ d ≤ ((fun i' => if i' = i then t else ls i') j).length) := fun j hj => by
                    show Rise (if j = i then t else ls j) ∧ d ≤ (if j = i then t else ls j).length
                    by_cases e : j = i
                    · rw [if_pos e]; exact HRZ.out
                    · rw [if_neg e]; exact hri.out j (by omega)
                  clear hy hz HR4 HQZ
                  go_wp2_with (at_builtin; go_must (refine wpList_append_q _ rfl (.tmp 84) (.tmp 86) 58 rfl w.heap.size 25 i1 (.slice none 0 0) 1 24 Tryd.underlying58 hi1 hy0 hy1 hy2 rfl (by decide) _ i ys rfl HYA.out ⟨_, 0, none⟩ 1 1 [.slice p4 t.length c4] rfl rfl (cells_new1 _ _ _) (by simp [Value.oneCell']) (by unfold maxLen; omega) (by omega) (by simp; omega) ?_); intro v5 w5 hq5 hg5 ho5; have HR5 : Hid (LRow w5 w.heap.size v5 (i + 1) (fun i' => if i' = i then t else ls i')) := LRow.push HZA.out HYA.out HQA.out hg5 hq5; have HB5 : Hid (Below w.heap.size w w5) := Below.grown (HB4.out.alloc hsz4 _) hg5 (by simp; omega) (fun kk e => (HLT.out kk e).1); clear hq5 hg5 ho5)
                  exact ⟨⟨i + 1, _, by omega, int_eq (by omega), HL7, HRI, HR5, HB5⟩, by simp [intOf]; omega⟩
    · have g1 : ¬ (i : Int) < (m : Int) := by omega
      have hie : i = m := by omega
      rw [hie] at hR hri ⊢
      clear hie
      go_wp2
      go_ret
      exact ⟨⟨p3, c3, rfl, ls, hl7.out, hri.out, hR.out⟩, hB.out⟩
end Go.Proofs.YtpknnjcbcndbbaaDoor
namespace Go.Proofs.YtpknnjcbcndbbaaDoor
open Go.RowKit Go.Shelf

theorem rise_len {l : List Int} (h : Rise l) : l.length ≤ 64 := by
  have key : ∀ k, k < l.length → (k : Int) ≤ zz l k := by
    intro k
    induction k with
    | zero => intro h0; exact (h 0 h0).1
    | succ k ih =>
      intro hk
      have h1 := (h (k + 1) hk).2.2 (by omega)
      have h2 := ih (by omega)
      rw [Nat.add_sub_cancel] at h1
      omega
  cases e : l.length with
  | zero => omega
  | succ n =>
    have h1 := key n (by omega)
    have h2 := (h n (by omega)).2.1
    omega
def natT (ls : Nat → List Int) (m i : Nat) : List Nat := if i < m then natL ls i else []
theorem natT_len {ls : Nat → List Int} {m : Nat} (h : ∀ i, i < m → Rise (ls i)) (i : Nat) : (natT ls m i).length ≤ 64 := by
  unfold natT
  by_cases hi : i < m
  · rw [if_pos hi]; unfold natL; rw [List.length_map]; exact rise_len (h i hi)
  · rw [if_neg hi]; simp
theorem LstI.at {W : World} {la : Option Addr} {m : Nat} {ls : Nat → List Int} (h : LstI W la m ls) (hr : ∀ i, i < m → Rise (ls i)) : ListsAt W la m (natT ls m) := fun h0 => by
  obtain ⟨b, o, e, h1, h2⟩ := h h0
  refine ⟨b, o, e, h1, fun i hi => ?_⟩
  obtain ⟨p, c, h3, h4⟩ := h2 i hi
  have hl : (natT ls m i).length = (ls i).length := by unfold natT; rw [if_pos hi]; unfold natL; rw [List.length_map]
  refine ⟨p, c, by rw [hl]; exact h3, fun hne => ?_⟩
  rw [hl] at hne
  obtain ⟨b2, o2, e2, h5, h6⟩ := h4 hne
  refine ⟨b2, o2, e2, h5, fun j hj => ?_⟩
  rw [hl] at hj
  rw [h6 j hj]
  have h7 := (hr i hi j hj).1
  have : ((nth (natT ls m i) j : Nat) : Int) = zz (ls i) j := by
    unfold natT
    rw [if_pos hi]
    unfold natL nth zz at *
    rw [List.getElem?_map]
    rw [List.getElem?_eq_getElem hj] at h7 ⊢
    simp at h7 ⊢
    omega
  simp only [this]
theorem famF_T {ps : List (Int × Int)} {ls : Nat → List Int} {m : Nat} (hm : m = ps.length) {f : Nat → Nat} : FamF ps (natT ls m) f ↔ FamF ps (natL ls) f := by
  have e : ∀ i, i < ps.length → natT ls m i = natL ls i := fun i hi => by unfold natT; rw [if_pos (by omega)]
  exact ⟨fun h => ⟨fun i hi => by rw [← e i hi]; exact h.1 i hi, h.2⟩, fun h => ⟨fun i hi => by rw [e i hi]; exact h.1 i hi, h.2⟩⟩
/-- the document's Some of lists that are right -/
theorem some_of {a la : Option Addr} {cap lc m : Nat} {ps : List (Int × Int)} {ls : Nat → List Int} (hm : ps.length ≤ 1099511627776) (hP : ListsP ls m ps.length) (w : World) (hE : Pairs w a ps) (hL : LstI w la m ls) :
    Calls Tryd.prog 40 #[.slice a ps.length cap, .slice la m lc] w fun e w' => BoolP (∃ f, FamF ps (natL ls) f) e ∧ Below w.heap.size w w' := by
  have hml := hP.2
  have hA := hL.at hP.1
  have hN := natT_len hP.1
  rw [hml] at hA hN ⊢
  have h := rsome_any (lc := lc) (cap := cap) hm hN w hE hA
  exact h.mono fun e w' ⟨⟨b, h1, h2⟩, h3⟩ => ⟨⟨b, h1, h2.trans ⟨fun ⟨f, hf⟩ => ⟨f, (famF_T rfl).1 hf⟩, fun ⟨f, hf⟩ => ⟨f, (famF_T rfl).2 hf⟩⟩⟩, h3⟩
theorem from_true {p la : Option Addr} {c m lc : Nat} {ps : List (Int × Int)} {ls : Nat → List Int} {f : Nat → Nat} (hl : ps.length ≤ 1099511627776) (hll : ∀ i, (ls i).length ≤ 1000) (hP : ListsP ls m ps.length) (F : FamF ps (natL ls) f) (w : World) (h : SrcI w p ps.length (fun j => (f j : Int))) (hL : LstI w la m ls) :
    Calls Tryd.prog 41 #[.slice p ps.length c, .slice la m lc] w fun e w' => e = .returned (.bool true) ∧ Below w.heap.size w w' :=
  (from_any p la ps.length c m lc _ ls w hl hll h hL).mono fun e w' ⟨h1, h2⟩ => ⟨h1.dec ⟨fun _ => ⟨hP.2.symm, fun i hi => (mem_natL (hP.1 i (by rw [hP.2]; exact hi))).1 (F.1 i hi)⟩, fun _ => rfl⟩, h2⟩
theorem fam_proper {ps : List (Int × Int)} {ls : Nat → List Nat} {f : Nat → Nat} (F : FamF ps ls f) : ProperI ps (fun j => (f j : Int)) := fun i hi k hk h => by
  have h1 := F.2 i k hi (by omega) (by omega) h.2
  have h2 := h.1
  exact h1 (by have h3 : ((f i : Nat) : Int) = ((f k : Nat) : Int) := h2; omega)
set_option maxRecDepth 100000 in
set_option maxHeartbeats 4000000 in
theorem law8 (n : Int) (a : Option Addr) (cap : Nat) (ps : List (Int × Int)) (a2 : Option Addr) (cap2 : Nat) (xs : List (List Int)) (w : World) (h : PairsIn w a cap ps) (h2 : ListsIn w a2 cap2 xs) (hT : Tab w) :
    Calls Tryd.prog 8 #[.int .i64 n, .slice a ps.length cap, .slice a2 xs.length cap2] w fun e w' => e = .returned (.bool true) ∧ Below w.heap.size w w' := by
  have HTM := Lib.hid (tame_cap n a cap ps 8 w h (by decide) (by decide))
  have HT := Lib.hid hT
  have HLI : Hid (∀ W, Below w.heap.size w W → Calls Tryd.prog 37 #[.slice a2 xs.length cap2] W fun e w' => (∃ p c m ls, e = .returned (.slice p m c) ∧ m ≤ 125 ∧ (∀ i, (ls i).length ≤ 70) ∧ LRow w' W.heap.size (.slice p m c) m ls) ∧ Below W.heap.size W w') := fun W hW => lists_copy a2 cap2 xs W (h2.below hW (Nat.le_refl _))
  have HFI : Hid (∀ W (m : Nat), Below w.heap.size w W → m ≤ 1099511627776 → Calls Tryd.prog 42 #[.slice a2 xs.length cap2, .int .i64 (m : Int), .int .i64 1] W fun e w' => (∃ p c ls, e = .returned (.slice p m c) ∧ (∀ i, (ls i).length ≤ 64) ∧ (∀ i, i < m → Rise (ls i) ∧ 1 ≤ (ls i).length) ∧ LRow w' W.heap.size (.slice p m c) m ls) ∧ Below W.heap.size W w') := fun W m hW hm => by
    rw [show (1 : Int) = ((1 : Nat) : Int) from rfl]
    exact filled_any a2 cap2 m 1 xs W (h2.below hW (Nat.le_refl _)) hm (by decide)
  clear h h2 hT
  go_enter Tryd.func8, Tryd.ntmps8
  go_upto_region 2 with (go_at_call 14; refine (HTM.out).mono ?_; rintro e w1 ⟨m, qs, a1, c1, rfl, hm, hG1, hB1, hcf, hcm⟩; have HG1 := Lib.hid hG1; have HB1 := Lib.hid hB1; clear hG1 hB1)
  have HL := Lib.hid (HLI.out w1 HB1.out)
  clear HLI HTM
  go_upto_region 3 with (go_at_call 37; refine (HL.out).mono ?_; rintro e w2 ⟨⟨p2, c2, m2, ls2, rfl, hm2, hl2, hr2⟩, hB2⟩; have HL2 := Lib.hid hl2; have HR2 := Lib.hid hr2; have HG2 := Lib.hid (HG1.out.below hB2); have HB2 := Lib.hid (HB1.out.trans (hB2.mono HB1.out.size)); clear hB2 hl2 hr2)
  clear HL HG1
  go_upto_region 4 with (fail)
  go_loopw [7, 8, 9] (fun s7 s8 s9 wr => ∃ (k : Nat) (ps : List (Int × Int)) (p : Option Addr) (c ml : Nat) (ls : Nat → List Int), k ≤ 2 ∧ ps.length ≤ c1 ∧ ml ≤ 1099511627776 ∧ s9 = .int .i64 (k : Int) ∧ s7 = .slice a1 ps.length c1 ∧ s8 = .slice p ml c ∧ Hid (Good m ps a1 wr) ∧ Hid (LstI wr p ml ls) ∧ Hid (∀ i, (ls i).length ≤ 1000) ∧ Hid (Below w.heap.size w wr)) (fun _ _ s9 _ => 4 - (intOf s9).toNat)
  case atStart => exact ⟨0, qs, p2, c2, m2, ls2, by omega, hcf, by omega, rfl, rfl, rfl, HG2, HR2.out.lst, (fun i => Nat.le_trans (HL2.out i) (by decide)), HB2⟩
  case round =>
    clear HG2 HR2 HL2 HB2 hcf
    obtain ⟨k, ps, p, c, ml, ls, hk, hpc, hml, rfl, rfl, rfl, hG, hL, hll, hB⟩ := hrel
    by_cases hk2 : k < 2
    · have g1 : (k : Int) < 2 := by omega
      have hlen := hG.out.hl
      have HC1 := Lib.hid (FromLists_ok m a1 p c1 ml c ps ls wr (HT.out.below hB.out (Nat.le_refl _)) hG.out hml hll.out hL.out)
      go_upto_region 7 with (go_at_call 38; refine (HC1.out).mono ?_; rintro e w3 ⟨hf3, hB3⟩; have HB3 := Lib.hid hB3; clear hB3; rcases hf3 with ⟨rfl, hn3⟩ | ⟨rfl, hp3, h12⟩ | ⟨rfl, hp3, h12, hn3⟩ | ⟨p3, c3, f3, rfl, hp3, h12, hF3, hS3⟩)
      · have HV : (false = true ↔ ListsP ls ml ps.length) := ⟨(fun h => by cases h), fun h => absurd h hn3⟩
        have HLA := Lib.hid (lists_any p ml ps.length c ls w3 hml hll.out (hL.out.below HB3.out (Nat.le_refl _)))
        go_upto_region 17 with (go_at_call 39; refine (HLA.out).mono ?_; rintro e w4 ⟨h4, hB4⟩; obtain rfl := h4.dec (b := false) HV; have HB4 := Lib.hid (HB3.out.trans (hB4.mono HB3.out.size)); clear h4 hB4; try dsimp only)
        have HBX := Lib.hid (hB.out.trans (HB4.out.mono hB.out.size))
        have HGX := Lib.hid (hG.out.below HB4.out)
        clear HC1
        obtain ⟨k1, hk1⟩ : ∃ k1, Hid (k1 = min ps.length 12) := ⟨_, rfl⟩
        have hmin : min (ps.length : Int) (12 : Int) = (k1 : Int) := by rw [hk1.out]; omega
        have hkl : k1 ≤ ps.length := by rw [hk1.out]; exact Nat.min_le_left _ _
        have hkc : k1 ≤ c1 := by omega
        have hk12 : k1 ≤ 12 := by rw [hk1.out]; exact Nat.min_le_right _ _
        have HTK : Hid ((ps.take k1).length = k1) := by rw [Hid, List.length_take]; omega
        go_upto_region 18 with (fail)
        have HFC := Lib.hid (HFI.out _ k1 HBX.out (by omega))
        go_wp2_with (go_at_call 42; refine (HFC.out).mono ?_; rintro e w9 ⟨⟨p9, c9, ls9, rfl, hl9, -, hr9⟩, hB9⟩; have HL9 := Lib.hid hl9; have HR9 := Lib.hid hr9.lst; have HB9 := Lib.hid (HBX.out.trans (hB9.mono HBX.out.size)); have HG9 := Lib.hid ((HGX.out.below hB9).take k1); clear hl9 hr9 hB9)
        exact ⟨⟨k + 1, ps.take k1, p9, c9, k1, ls9, by omega, by rw [HTK.out]; omega, by omega, int_eq (by omega), by rw [HTK.out], rfl, HG9, HR9, (fun i => Nat.le_trans (HL9.out i) (by decide)), HB9⟩, by simp [intOf]; omega⟩
      · have HV : (true = true ↔ ListsP ls ml ps.length) := ⟨fun _ => hp3, fun _ => rfl⟩
        have g12 : (12 : Int) < (ps.length : Int) := by omega
        have HLA := Lib.hid (lists_any p ml ps.length c ls w3 hml hll.out (hL.out.below HB3.out (Nat.le_refl _)))
        go_upto_region 17 with (go_at_call 39; refine (HLA.out).mono ?_; rintro e w4 ⟨h4, hB4⟩; obtain rfl := h4.dec (b := true) HV; have HB4 := Lib.hid (HB3.out.trans (hB4.mono HB3.out.size)); clear h4 hB4; try dsimp only)
        clear g12
        have HBX := Lib.hid (hB.out.trans (HB4.out.mono hB.out.size))
        have HGX := Lib.hid (hG.out.below HB4.out)
        clear HC1
        obtain ⟨k1, hk1⟩ : ∃ k1, Hid (k1 = min ps.length 12) := ⟨_, rfl⟩
        have hmin : min (ps.length : Int) (12 : Int) = (k1 : Int) := by rw [hk1.out]; omega
        have hkl : k1 ≤ ps.length := by rw [hk1.out]; exact Nat.min_le_left _ _
        have hkc : k1 ≤ c1 := by omega
        have hk12 : k1 ≤ 12 := by rw [hk1.out]; exact Nat.min_le_right _ _
        have HTK : Hid ((ps.take k1).length = k1) := by rw [Hid, List.length_take]; omega
        go_upto_region 18 with (fail)
        have HFC := Lib.hid (HFI.out _ k1 HBX.out (by omega))
        go_wp2_with (go_at_call 42; refine (HFC.out).mono ?_; rintro e w9 ⟨⟨p9, c9, ls9, rfl, hl9, -, hr9⟩, hB9⟩; have HL9 := Lib.hid hl9; have HR9 := Lib.hid hr9.lst; have HB9 := Lib.hid (HBX.out.trans (hB9.mono HBX.out.size)); have HG9 := Lib.hid ((HGX.out.below hB9).take k1); clear hl9 hr9 hB9)
        exact ⟨⟨k + 1, ps.take k1, p9, c9, k1, ls9, by omega, by rw [HTK.out]; omega, by omega, int_eq (by omega), by rw [HTK.out], rfl, HG9, HR9, (fun i => Nat.le_trans (HL9.out i) (by decide)), HB9⟩, by simp [intOf]; omega⟩
      · have HV : (true = true ↔ ListsP ls ml ps.length) := ⟨fun _ => hp3, fun _ => rfl⟩
        have g12 : ¬ (12 : Int) < (ps.length : Int) := by omega
        have HN3 := Lib.hid hn3
        have HP3 := Lib.hid hp3
        have HSO : Hid (∀ W, Below wr.heap.size wr W → Calls Tryd.prog 40 #[.slice a1 ps.length c1, .slice p ml c] W fun e w' => BoolP (∃ f, FamF ps (natL ls) f) e ∧ Below W.heap.size W w') := fun W hW => some_of hlen HP3.out W (hG.out.hg.below hW (Nat.le_refl _)) (hL.out.below hW (Nat.le_refl _))
        have HLA := Lib.hid (lists_any p ml ps.length c ls w3 hml hll.out (hL.out.below HB3.out (Nat.le_refl _)))
        clear hn3 hp3
        go_upto_region 17 with (first
          | (go_at_call 39; refine (HLA.out).mono ?_; rintro e w4 ⟨h4, hB4⟩; obtain rfl := h4.dec (b := true) HV; have HB4 := Lib.hid (HB3.out.trans (hB4.mono HB3.out.size)); clear h4 hB4; try dsimp only)
          | (go_at_call 40; refine (HSO.out _ HB4.out).mono ?_; rintro e w5 ⟨h5, hB5⟩; obtain rfl := h5.dec (b := false) ⟨(fun h => by cases h), fun h => absurd h HN3.out⟩; have HB5 := Lib.hid (HB4.out.trans (hB5.mono HB4.out.size)); clear h5 hB5; try dsimp only))
        clear g12
        have HBX := Lib.hid (hB.out.trans (HB5.out.mono hB.out.size))
        have HGX := Lib.hid (hG.out.below HB5.out)
        clear HC1
        obtain ⟨k1, hk1⟩ : ∃ k1, Hid (k1 = min ps.length 12) := ⟨_, rfl⟩
        have hmin : min (ps.length : Int) (12 : Int) = (k1 : Int) := by rw [hk1.out]; omega
        have hkl : k1 ≤ ps.length := by rw [hk1.out]; exact Nat.min_le_left _ _
        have hkc : k1 ≤ c1 := by omega
        have hk12 : k1 ≤ 12 := by rw [hk1.out]; exact Nat.min_le_right _ _
        have HTK : Hid ((ps.take k1).length = k1) := by rw [Hid, List.length_take]; omega
        go_upto_region 18 with (fail)
        have HFC := Lib.hid (HFI.out _ k1 HBX.out (by omega))
        go_wp2_with (go_at_call 42; refine (HFC.out).mono ?_; rintro e w9 ⟨⟨p9, c9, ls9, rfl, hl9, -, hr9⟩, hB9⟩; have HL9 := Lib.hid hl9; have HR9 := Lib.hid hr9.lst; have HB9 := Lib.hid (HBX.out.trans (hB9.mono HBX.out.size)); have HG9 := Lib.hid ((HGX.out.below hB9).take k1); clear hl9 hr9 hB9)
        exact ⟨⟨k + 1, ps.take k1, p9, c9, k1, ls9, by omega, by rw [HTK.out]; omega, by omega, int_eq (by omega), by rw [HTK.out], rfl, HG9, HR9, (fun i => Nat.le_trans (HL9.out i) (by decide)), HB9⟩, by simp [intOf]; omega⟩
      · have HV : (true = true ↔ ListsP ls ml ps.length) := ⟨fun _ => hp3, fun _ => rfl⟩
        have g12 : ¬ (12 : Int) < (ps.length : Int) := by omega
        have HF3 := Lib.hid hF3
        have HP3 := Lib.hid hp3
        have HSO : Hid (∀ W, Below wr.heap.size wr W → Calls Tryd.prog 40 #[.slice a1 ps.length c1, .slice p ml c] W fun e w' => BoolP (∃ f, FamF ps (natL ls) f) e ∧ Below W.heap.size W w') := fun W hW => some_of hlen HP3.out W (hG.out.hg.below hW (Nat.le_refl _)) (hL.out.below hW (Nat.le_refl _))
        have HFR : Hid (∀ W, Below wr.heap.size wr W → SrcI W p3 ps.length (fun j => (f3 j : Int)) → Calls Tryd.prog 41 #[.slice p3 ps.length c3, .slice p ml c] W fun e w' => e = .returned (.bool true) ∧ Below W.heap.size W w') := fun W hW hS => from_true hlen hll.out HP3.out HF3.out W hS (hL.out.below hW (Nat.le_refl _))
        have HPT : Hid (∀ W, Below wr.heap.size wr W → SrcI W p3 ps.length (fun j => (f3 j : Int)) → Calls Tryd.prog 18 #[.slice a1 ps.length c1, .slice p3 ps.length c3] W fun e w' => e = .returned (.bool true) ∧ Below W.heap.size W w') := fun W hW hS => proper_true a1 p3 c1 c3 ps _ W hlen (hG.out.hg.below hW (Nat.le_refl _)) hS (fam_proper HF3.out)
        have HS3 := Lib.hid hS3
        have HLA := Lib.hid (lists_any p ml ps.length c ls w3 hml hll.out (hL.out.below HB3.out (Nat.le_refl _)))
        clear hF3 hp3 hS3
        go_upto_region 17 with (first
          | (go_at_call 39; refine (HLA.out).mono ?_; rintro e w4 ⟨h4, hB4⟩; obtain rfl := h4.dec (b := true) HV; have hB4' := hB4; have HB4 := Lib.hid (HB3.out.trans (hB4.mono HB3.out.size)); clear h4 hB4; try dsimp only; have HS4 := Lib.hid (HS3.out.below hB4' (Nat.le_refl _)); clear hB4')
          | (go_at_call 40; refine (HSO.out _ HB4.out).mono ?_; rintro e w5 ⟨h5, hB5⟩; obtain rfl := h5.dec (b := true) ⟨fun _ => ⟨f3, HF3.out⟩, fun _ => rfl⟩; have HS5 := Lib.hid (HS4.out.below hB5 (Nat.le_refl _)); have HB5 := Lib.hid (HB4.out.trans (hB5.mono HB4.out.size)); clear h5 hB5; try dsimp only)
          | (go_at_call 41; refine (HFR.out _ HB5.out HS5.out).mono ?_; rintro e w6 ⟨rfl, hB6⟩; have HS6 := Lib.hid (HS5.out.below hB6 (Nat.le_refl _)); have HB6 := Lib.hid (HB5.out.trans (hB6.mono HB5.out.size)); clear hB6; try dsimp only)
          | (go_at_call 18; refine (HPT.out _ HB6.out HS6.out).mono ?_; rintro e w7 ⟨rfl, hB7⟩; have HB7 := Lib.hid (HB6.out.trans (hB7.mono HB6.out.size)); clear hB7; try dsimp only))
        clear g12
        have HBX := Lib.hid (hB.out.trans (HB7.out.mono hB.out.size))
        have HGX := Lib.hid (hG.out.below HB7.out)
        clear HC1
        obtain ⟨k1, hk1⟩ : ∃ k1, Hid (k1 = min ps.length 12) := ⟨_, rfl⟩
        have hmin : min (ps.length : Int) (12 : Int) = (k1 : Int) := by rw [hk1.out]; omega
        have hkl : k1 ≤ ps.length := by rw [hk1.out]; exact Nat.min_le_left _ _
        have hkc : k1 ≤ c1 := by omega
        have hk12 : k1 ≤ 12 := by rw [hk1.out]; exact Nat.min_le_right _ _
        have HTK : Hid ((ps.take k1).length = k1) := by rw [Hid, List.length_take]; omega
        go_upto_region 18 with (fail)
        have HFC := Lib.hid (HFI.out _ k1 HBX.out (by omega))
        go_wp2_with (go_at_call 42; refine (HFC.out).mono ?_; rintro e w9 ⟨⟨p9, c9, ls9, rfl, hl9, -, hr9⟩, hB9⟩; have HL9 := Lib.hid hl9; have HR9 := Lib.hid hr9.lst; have HB9 := Lib.hid (HBX.out.trans (hB9.mono HBX.out.size)); have HG9 := Lib.hid ((HGX.out.below hB9).take k1); clear hl9 hr9 hB9)
        exact ⟨⟨k + 1, ps.take k1, p9, c9, k1, ls9, by omega, by rw [HTK.out]; omega, by omega, int_eq (by omega), by rw [HTK.out], rfl, HG9, HR9, (fun i => Nat.le_trans (HL9.out i) (by decide)), HB9⟩, by simp [intOf]; omega⟩
    · have g1 : ¬ (k : Int) < 2 := by omega
      have HAW := Lib.hid (awake_any wr (HT.out.below hB.out (Nat.le_refl _)))
      go_wp2_with (go_at_call 16; refine (HAW.out).mono ?_; rintro e w13 ⟨rfl, hB13⟩; have HB13 := Lib.hid (hB.out.trans (hB13.mono hB.out.size)); clear hB13)
      go_ret
      exact ⟨rfl, HB13.out⟩
end Go.Proofs.YtpknnjcbcndbbaaDoor
namespace Go.Proofs.YtpknnjcbcndbbaaDoor
open Go.RowKit

def FamC (g : List Nat) (n : Nat) (ls : Nat → List Nat) (f : Nat → Nat) : Prop := (∀ i, i < n → f i ∈ ls i) ∧ ∀ i k, i < n → k < n → i ≠ k → adj g i k → f i ≠ f k
def ExtC (g : List Nat) (n : Nat) (ls : Nat → List Nat) (h : Nat → Int) : Prop := ∃ f, FamC g n ls f ∧ ∀ i, i < n → 0 ≤ h i → h i = (f i : Int)
structure PreC (g : List Nat) (n : Nat) (ls : Nat → List Nat) (h : Nat → Int) : Prop where
  own : ∀ i, i < n → h i = -1 ∨ ∃ x, x ∈ ls i ∧ h i = (x : Int)
  prop : ∀ i k, i < n → k < n → i ≠ k → adj g i k → 0 ≤ h i → h i ≠ h k
def FreeC (g : List Nat) (n : Nat) (h : Nat → Int) (i : Nat) (x : Int) : Prop := ∀ k, k < n → k ≠ i → ¬ (h k = x ∧ adj g k i)
section
variable {g : List Nat} {n : Nat} {ls : Nat → List Nat} {h : Nat → Int}
theorem PreC.done (P : PreC g n ls h) (hall : ∀ i, i < n → 0 ≤ h i) : ExtC g n ls h := by
  refine ⟨fun i => (h i).toNat, ⟨fun i hi => ?_, fun i k hi hk hne hm => ?_⟩, fun i hi h0 => by show h i = (((h i).toNat : Nat) : Int); omega⟩
  · show (h i).toNat ∈ ls i
    rcases P.own i hi with e | ⟨x, hx, e⟩
    · have := hall i hi; omega
    · rw [e]; simpa using hx
  · have h1 := P.prop i k hi hk hne hm (hall i hi)
    have h2 := hall i hi
    have h3 := hall k hk
    show (h i).toNat ≠ (h k).toNat
    omega
theorem PreC.start (g : List Nat) (n : Nat) (ls : Nat → List Nat) : PreC g n ls (fun _ => -1) := ⟨fun _ _ => .inl rfl, fun _ _ _ _ _ _ h => absurd h (by decide)⟩
theorem ExtC.start : ExtC g n ls (fun _ => -1) ↔ ∃ f, FamC g n ls f := ⟨fun ⟨f, h1, _⟩ => ⟨f, h1⟩, fun ⟨f, h1⟩ => ⟨f, h1, fun i _ h => absurd (show (0 : Int) ≤ -1 from h) (by decide)⟩⟩
theorem PreC.step (hsym : ∀ i k, adj g i k → adj g k i) (P : PreC g n ls h) {i x : Nat} (hi : i < n) (hx : x ∈ ls i) (hf : FreeC g n h i (x : Int)) : PreC g n ls (setI h i (x : Int)) := by
  refine ⟨fun j hj => ?_, fun j k hj hk hne hm h0 => ?_⟩
  · unfold setI
    by_cases e : j = i
    · rw [if_pos e, e]; exact .inr ⟨x, hx, rfl⟩
    · rw [if_neg e]; exact P.own j hj
  · unfold setI at h0 ⊢
    by_cases e : j = i
    · subst e
      rw [if_pos rfl, if_neg (fun h => hne h.symm)]
      exact fun e => hf k hk (fun h => hne h.symm) ⟨e.symm, hsym _ _ hm⟩
    · rw [if_neg e] at h0 ⊢
      by_cases e2 : k = i
      · subst e2
        rw [if_pos rfl]
        exact fun e3 => hf j hj e ⟨e3, hm⟩
      · rw [if_neg e2]; exact P.prop j k hj hk hne hm h0
theorem ExtC.step (E : ExtC g n ls h) {i : Nat} (hi : i < n) (hn : h i < 0) : ∃ x, x ∈ ls i ∧ FreeC g n h i (x : Int) ∧ ExtC g n ls (setI h i (x : Int)) := by
  obtain ⟨f, ⟨h1, h2⟩, h3⟩ := E
  refine ⟨f i, h1 i hi, fun k hk hne hc => ?_, f, ⟨h1, h2⟩, fun j hj h0 => ?_⟩
  · have := h3 k hk (by omega)
    exact h2 k i hk hi hne hc.2 (by omega)
  · unfold setI at h0 ⊢
    by_cases e : j = i
    · rw [if_pos e, e]
    · rw [if_neg e] at h0 ⊢; exact h3 j hj h0
theorem ExtC.back {i x : Nat} (E : ExtC g n ls (setI h i (x : Int))) (hn : h i < 0) : ExtC g n ls h := by
  obtain ⟨f, h1, h3⟩ := E
  refine ⟨f, h1, fun j hj h0 => ?_⟩
  have := h3 j hj
  unfold setI at this
  by_cases e : j = i
  · subst e; omega
  · rw [if_neg e] at this; exact this h0
end
end Go.Proofs.YtpknnjcbcndbbaaDoor
namespace Go.Proofs.YtpknnjcbcndbbaaDoor
open Go.RowKit Go.Shelf

set_option maxRecDepth 100000 in
set_option maxHeartbeats 2000000 in
theorem ropen_any (n : Nat) (a p : Option Addr) (cap c : Nat) (g : List Nat) (h : Nat → Int) (i : Nat) (x : Int) (w : World) (hl : g.length = n) (hn : n ≤ 16) (U : Und g n) (hsm : ∀ i : Nat, Sm (g[i]?.getD 0)) (hi : i < n) (hg : Sets w a g) (hs : SrcI w p n h) :
    Calls Tryd.prog 92 #[.slice a n cap, .slice p n c, .int .i64 (i : Int), .int .i64 x] w fun e w' => BoolP (FreeC g n h i x) e ∧ w' = w := by
  have H := Lib.hid hs
  have HG := Lib.hid hg
  have HU := Lib.hid U
  have HSM := Lib.hid hsm
  have HLN := Lib.hid hl
  have hi0 : (0 : Int) ≤ (i : Int) := by omega
  have hil : (i : Int) < (n : Int) := by omega
  clear hs hg U hsm hl
  go_enter Tryd.func92, Tryd.ntmps92
  go_upto_region 2 with (fail)
  go_loopw [9] (fun s9 wr => ∃ k : Nat, k ≤ n ∧ s9 = .int .i64 (k : Int) ∧ Hid (∀ k', k' < k → k' ≠ i → ¬ (h k' = x ∧ adj g k' i)) ∧ Hid (wr = w)) (fun s9 _ => n - (intOf s9).toNat)
  case atStart => exact ⟨0, by omega, rfl, (fun k hk => by omega), rfl⟩
  case round =>
    obtain ⟨k, hk, rfl, hp, hw⟩ := hrel
    rw [hw.out]
    by_cases hkl : k < n
    · have g1 : (k : Int) < (n : Int) := by omega
      have g0 : (0 : Int) ≤ (k : Int) := by omega
      have hk20 : k < 20 := by omega
      obtain ⟨gb, go, rfl, hgb, hgc⟩ := HG.out
      obtain ⟨b, o, rfl, hb, hc⟩ := H.out (by omega)
      have k1 := hgc i (by rw [HLN.out]; exact hi)
      have k2 := hc k hkl
      have hgs := HSM.out i
      have HAJ : Hid ((g[i]?.getD 0).testBit k = true ↔ adj g k i) := ⟨fun h => HU.out.sym _ _ h, fun h => HU.out.sym _ _ h⟩
      have HNE : Hid ((g[i]?.getD 0).testBit k = true → k ≠ i) := fun h e => HU.out.ne _ _ h e.symm
      have HNX : Hid ((k ≠ i → ¬ (h k = x ∧ adj g k i)) → ∀ k', k' < k + 1 → k' ≠ i → ¬ (h k' = x ∧ adj g k' i)) := fun h k' hk' => by
        by_cases e : k' = k
        · subst e; exact h
        · exact hp.out k' (by omega)
      have HBAD : Hid (k ≠ i → h k = x → adj g k i → ¬ FreeC g n h i x) := fun h0 h1 h2 h => h k hkl h0 ⟨h1, h2⟩
      clear hgc hc
      generalize g[i]?.getD 0 = gi at *
      cases hbit : gi.testBit k with
      | false =>
        have HN := Lib.hid (HNX.out fun _ h => by have := HAJ.out.2 h.2; rw [hbit] at this; cases this)
        clear HNE HAJ HNX HBAD
        generalize h k = hk0 at *
        go_wp2
        exact ⟨⟨k + 1, by omega, int_eq (by omega), HN, Lib.hid trivial⟩, by simp [intOf]; omega⟩
      | true =>
        by_cases hff : h k = x
        · have e3 : (h k == x) = true := by rw [hff]; simp
          have HB2 := Lib.hid (HBAD.out (HNE.out hbit) hff (HAJ.out.1 hbit))
          clear HNE HAJ HNX HBAD hff
          generalize h k = hk0 at *
          go_wp2
          go_ret
          exact ⟨BoolP.no HB2.out, rfl⟩
        · have e3 : (h k == x) = false := by rw [beq_eq_false_iff_ne]; exact hff
          have HN := Lib.hid (HNX.out fun _ h => hff h.1)
          clear HNE HAJ HNX HBAD hff
          generalize h k = hk0 at *
          go_wp2
          exact ⟨⟨k + 1, by omega, int_eq (by omega), HN, Lib.hid trivial⟩, by simp [intOf]; omega⟩
    · have g1 : ¬ (k : Int) < (n : Int) := by omega
      have HY : Hid (FreeC g n h i x) := fun k' hk' => hp.out k' (by omega)
      go_wp2
      go_ret
      exact ⟨BoolP.yes HY.out, rfl⟩
end Go.Proofs.YtpknnjcbcndbbaaDoor
namespace Go.Proofs.YtpknnjcbcndbbaaDoor
open Go.RowKit Go.Shelf

def PropC (g : List Nat) (n : Nat) (h : Nat → Int) : Prop := (∀ i, i < n → 0 ≤ h i) ∧ ∀ i k, i < n → k < n → adj g i k → h i ≠ h k
theorem rcols_len (n m : Nat) (a p : Option Addr) (cap c : Nat) (w : World) (hn : n ≤ 16) (hm : m ≤ 1099511627776) (hne : m ≠ n) :
    Calls Tryd.prog 45 #[.slice a n cap, .slice p m c] w fun e w' => e = .returned (.tuple #[.int .i64 0, .bool false]) ∧ w' = w := by
  have g0 : ((m : Int) != (n : Int)) = true := by rw [bne_iff_ne]; omega
  go_enter Tryd.func45, Tryd.ntmps45
  go_wp2
  refine bodyPost_ret (v := .tuple #[.int .i64 0, .bool false]) (by simp [results, Tryd.f45, go_sem]) rfl ?_
  exact ⟨rfl, rfl⟩
set_option maxRecDepth 100000 in
set_option maxHeartbeats 2000000 in
theorem rcols_any (n : Nat) (a p : Option Addr) (cap c : Nat) (g : List Nat) (h : Nat → Int) (w : World) (hl : g.length = n) (hn : n ≤ 16) (hsm : ∀ i : Nat, Sm (g[i]?.getD 0)) (hg : Sets w a g) (hs : SrcI w p n h) (hp : PropC g n h) :
    Calls Tryd.prog 45 #[.slice a n cap, .slice p n c] w fun e w' => (∃ m : Nat, e = .returned (.tuple #[.int .i64 (m : Int), .bool true])) ∧ Below w.heap.size w w' := by
  have H := Lib.hid hs
  have HG := Lib.hid hg
  have HSM := Lib.hid hsm
  have HLN := Lib.hid hl
  have HP := Lib.hid hp
  clear hs hg hsm hl hp
  have g0 : ((n : Int) != (n : Int)) = false := by simp
  go_enter Tryd.func45, Tryd.ntmps45
  go_upto_region 5 with (fail)
  clear g0
  go_loopw [6, 7] (fun s6 s7 wr => ∃ m i : Nat, i ≤ n ∧ m ≤ i ∧ s7 = .int .i64 (i : Int) ∧ s6 = .int .i64 (m : Int) ∧ Hid (Below w.heap.size w wr)) (fun _ s7 _ => 40 - (intOf s7).toNat)
  case atStart => exact ⟨0, 0, by omega, by omega, rfl, rfl, Below.refl _ _⟩
  case round =>
    obtain ⟨m, i, hi, hmi, rfl, rfl, hB⟩ := hrel
    by_cases hin : i < n
    · have g1 : (i : Int) < (n : Int) := by omega
      have gi0 : (0 : Int) ≤ (i : Int) := by omega
      go_upto_region 9 with (fail)
      obtain ⟨wo, hwo⟩ : ∃ wo, Hid (wo = wr) := ⟨_, rfl⟩
      go_loopw [8, 9] (fun s8 s9 wr2 => ∃ (b : Bool) (k : Nat), k ≤ i ∧ s9 = .int .i64 (k : Int) ∧ s8 = .bool b ∧ Hid (Below w.heap.size w wr2)) (fun _ s9 _ => 40 - (intOf s9).toNat)
      case atStart => exact ⟨true, 0, by omega, rfl, rfl, hB⟩
      case round =>
        clear hB
        obtain ⟨b, k, hk, rfl, rfl, hB⟩ := hrel
        obtain ⟨gb, go, rfl, hgb, hgc⟩ := HG.out
        obtain ⟨pb, po, rfl, hb, hc⟩ := H.out (by omega)
        by_cases hki : k < i
        · have g2 : (k : Int) < (i : Int) := by omega
          have g3 : (0 : Int) ≤ (k : Int) := by omega
          have g4 : (k : Int) < (n : Int) := by omega
          have hk20 : k < 20 := by omega
          have hbr : pb < wr.heap.size := Nat.lt_of_lt_of_le hb hB.out.size
          have hgr : gb < wr.heap.size := Nat.lt_of_lt_of_le hgb hB.out.size
          have c1 := (hB.out.cell (p := ⟨pb, po + k, none⟩) hb).trans (hc k (by omega))
          have c2 := (hB.out.cell (p := ⟨pb, po + i, none⟩) hb).trans (hc i hin)
          have c3 := (hB.out.cell (p := ⟨gb, go + i, none⟩) hgb).trans (hgc i (by rw [HLN.out]; exact hin))
          have hgs := HSM.out i
          have HPX : Hid (h k = h i → (g[i]?.getD 0).testBit k = false) := fun e => by
            cases hb : (g[i]?.getD 0).testBit k with
            | false => rfl
            | true => exact absurd e.symm (HP.out.2 i k hin (by omega) hb)
          clear hc hgc
          generalize g[i]?.getD 0 = gi at *
          have hbit : h k = h i → gi.testBit k = false := HPX.out
          clear HPX
          generalize h k = x at *
          generalize h i = y at *
          by_cases hxy : x = y
          · have e1 : (x != y) = false := by rw [hxy]; simp
            have e2 : (x == y) = true := by rw [hxy]; simp
            have hbf := hbit hxy
            clear hxy hbit
            have r1 : ∀ d : BW wr.heap.size wr, d.w.cell? ⟨pb, po + k, none⟩ = some (.int .i64 x) := fun d => d.cell hbr c1
            have r2 : ∀ d : BW wr.heap.size wr, d.w.cell? ⟨pb, po + i, none⟩ = some (.int .i64 y) := fun d => d.cell hbr c2
            cases b with
            | true =>
              go_upto_region 11 with (fail)
              refine wp_region_bw (by kernel_rfl) (by kernel_rfl) ?_
              repeat (go_big_quiet_step (rfl))
              refine wpQuiet_nil ?_
              rintro _ ⟨d, rfl⟩
              have HBD := Lib.hid (hB.out.trans (d.b.mono hB.out.size))
              have hbr2 : pb < d.w.heap.size := Nat.lt_of_lt_of_le hbr d.b.size
              have hgr2 : gb < d.w.heap.size := Nat.lt_of_lt_of_le hgr d.b.size
              have d1 := d.cell hbr c1
              have d2 := d.cell hbr c2
              have d3 := d.cell hgr c3
              clear r1 r2 c1 c2 c3
              generalize d.w = Z at *
              have r1 : ∀ d : BW Z.heap.size Z, d.w.cell? ⟨pb, po + k, none⟩ = some (.int .i64 x) := fun d => d.cell hbr2 d1
              have r2 : ∀ d : BW Z.heap.size Z, d.w.cell? ⟨pb, po + i, none⟩ = some (.int .i64 y) := fun d => d.cell hbr2 d2
              have r3 : ∀ d : BW Z.heap.size Z, d.w.cell? ⟨gb, go + i, none⟩ = some (.int .i64 (gi : Int)) := fun d => d.cell hgr2 d3
              go_upto_region 12 with (fail)
              refine wp_region_bw (by kernel_rfl) (by kernel_rfl) ?_
              repeat (go_big_quiet_step (rfl))
              refine wpQuiet_nil ?_
              rintro _ ⟨d, rfl⟩
              have HBE := Lib.hid (HBD.out.trans (d.b.mono HBD.out.size))
              clear r1 r2 r3 d1 d2 d3
              generalize d.w = Z2 at *
              go_wp2
              exact ⟨⟨false, k + 1, by omega, int_eq (by omega), rfl, HBE⟩, by simp [intOf]; omega⟩
            | false =>
              go_upto_region 11 with (fail)
              refine wp_region_bw (by kernel_rfl) (by kernel_rfl) ?_
              repeat (go_big_quiet_step (rfl))
              refine wpQuiet_nil ?_
              rintro _ ⟨d, rfl⟩
              have HBD := Lib.hid (hB.out.trans (d.b.mono hB.out.size))
              have hbr2 : pb < d.w.heap.size := Nat.lt_of_lt_of_le hbr d.b.size
              have hgr2 : gb < d.w.heap.size := Nat.lt_of_lt_of_le hgr d.b.size
              have d1 := d.cell hbr c1
              have d2 := d.cell hbr c2
              have d3 := d.cell hgr c3
              clear r1 r2 c1 c2 c3
              generalize d.w = Z at *
              have r1 : ∀ d : BW Z.heap.size Z, d.w.cell? ⟨pb, po + k, none⟩ = some (.int .i64 x) := fun d => d.cell hbr2 d1
              have r2 : ∀ d : BW Z.heap.size Z, d.w.cell? ⟨pb, po + i, none⟩ = some (.int .i64 y) := fun d => d.cell hbr2 d2
              have r3 : ∀ d : BW Z.heap.size Z, d.w.cell? ⟨gb, go + i, none⟩ = some (.int .i64 (gi : Int)) := fun d => d.cell hgr2 d3
              go_upto_region 12 with (fail)
              refine wp_region_bw (by kernel_rfl) (by kernel_rfl) ?_
              repeat (go_big_quiet_step (rfl))
              refine wpQuiet_nil ?_
              rintro _ ⟨d, rfl⟩
              have HBE := Lib.hid (HBD.out.trans (d.b.mono HBD.out.size))
              clear r1 r2 r3 d1 d2 d3
              generalize d.w = Z2 at *
              go_wp2
              exact ⟨⟨false, k + 1, by omega, int_eq (by omega), rfl, HBE⟩, by simp [intOf]; omega⟩
          · have e1 : (x != y) = true := by rw [bne_iff_ne]; exact hxy
            have e2 : (x == y) = false := by rw [beq_eq_false_iff_ne]; exact hxy
            clear hxy hbit
            have r1 : ∀ d : BW wr.heap.size wr, d.w.cell? ⟨pb, po + k, none⟩ = some (.int .i64 x) := fun d => d.cell hbr c1
            have r2 : ∀ d : BW wr.heap.size wr, d.w.cell? ⟨pb, po + i, none⟩ = some (.int .i64 y) := fun d => d.cell hbr c2
            cases b with
            | true =>
              go_upto_region 11 with (fail)
              refine wp_region_bw (by kernel_rfl) (by kernel_rfl) ?_
              repeat (go_big_quiet_step (rfl))
              refine wpQuiet_nil ?_
              rintro _ ⟨d, rfl⟩
              have HBD := Lib.hid (hB.out.trans (d.b.mono hB.out.size))
              have hbr2 : pb < d.w.heap.size := Nat.lt_of_lt_of_le hbr d.b.size
              have hgr2 : gb < d.w.heap.size := Nat.lt_of_lt_of_le hgr d.b.size
              have d1 := d.cell hbr c1
              have d2 := d.cell hbr c2
              have d3 := d.cell hgr c3
              clear r1 r2 c1 c2 c3
              generalize d.w = Z at *
              have r1 : ∀ d : BW Z.heap.size Z, d.w.cell? ⟨pb, po + k, none⟩ = some (.int .i64 x) := fun d => d.cell hbr2 d1
              have r2 : ∀ d : BW Z.heap.size Z, d.w.cell? ⟨pb, po + i, none⟩ = some (.int .i64 y) := fun d => d.cell hbr2 d2
              have r3 : ∀ d : BW Z.heap.size Z, d.w.cell? ⟨gb, go + i, none⟩ = some (.int .i64 (gi : Int)) := fun d => d.cell hgr2 d3
              go_upto_region 12 with (fail)
              refine wp_region_bw (by kernel_rfl) (by kernel_rfl) ?_
              repeat (go_big_quiet_step (rfl))
              refine wpQuiet_nil ?_
              rintro _ ⟨d, rfl⟩
              have HBE := Lib.hid (HBD.out.trans (d.b.mono HBD.out.size))
              clear r1 r2 r3 d1 d2 d3
              generalize d.w = Z2 at *
              go_wp2
              exact ⟨⟨true, k + 1, by omega, int_eq (by omega), rfl, HBE⟩, by simp [intOf]; omega⟩
            | false =>
              go_upto_region 11 with (fail)
              refine wp_region_bw (by kernel_rfl) (by kernel_rfl) ?_
              repeat (go_big_quiet_step (rfl))
              refine wpQuiet_nil ?_
              rintro _ ⟨d, rfl⟩
              have HBD := Lib.hid (hB.out.trans (d.b.mono hB.out.size))
              have hbr2 : pb < d.w.heap.size := Nat.lt_of_lt_of_le hbr d.b.size
              have hgr2 : gb < d.w.heap.size := Nat.lt_of_lt_of_le hgr d.b.size
              have d1 := d.cell hbr c1
              have d2 := d.cell hbr c2
              have d3 := d.cell hgr c3
              clear r1 r2 c1 c2 c3
              generalize d.w = Z at *
              have r1 : ∀ d : BW Z.heap.size Z, d.w.cell? ⟨pb, po + k, none⟩ = some (.int .i64 x) := fun d => d.cell hbr2 d1
              have r2 : ∀ d : BW Z.heap.size Z, d.w.cell? ⟨pb, po + i, none⟩ = some (.int .i64 y) := fun d => d.cell hbr2 d2
              have r3 : ∀ d : BW Z.heap.size Z, d.w.cell? ⟨gb, go + i, none⟩ = some (.int .i64 (gi : Int)) := fun d => d.cell hgr2 d3
              go_upto_region 12 with (fail)
              refine wp_region_bw (by kernel_rfl) (by kernel_rfl) ?_
              repeat (go_big_quiet_step (rfl))
              refine wpQuiet_nil ?_
              rintro _ ⟨d, rfl⟩
              have HBE := Lib.hid (HBD.out.trans (d.b.mono HBD.out.size))
              clear r1 r2 r3 d1 d2 d3
              generalize d.w = Z2 at *
              go_wp2
              exact ⟨⟨false, k + 1, by omega, int_eq (by omega), rfl, HBE⟩, by simp [intOf]; omega⟩
        · have g2 : ¬ (k : Int) < (i : Int) := by omega
          have c2 := (hB.out.cell (p := ⟨pb, po + i, none⟩) hb).trans (hc i hin)
          have hnn := HP.out.1 i hin
          clear hc hgc
          generalize h i = y at *
          have hy : ¬ y < 0 := by omega
          have hyd : decide (y < 0) = false := decide_eq_false hy
          cases b with
          | true =>
            go_wp2
            exact ⟨⟨m + 1, i + 1, by omega, by omega, int_eq (by omega), int_eq (by omega), hB⟩, by simp [intOf]; omega⟩
          | false =>
            go_wp2
            exact ⟨⟨m, i + 1, by omega, by omega, int_eq (by omega), rfl, hB⟩, by simp [intOf]; omega⟩
    · have g1 : ¬ (i : Int) < (n : Int) := by omega
      go_wp2
      refine bodyPost_ret (v := .tuple #[.int .i64 (m : Int), .bool true]) (by simp [results, Tryd.f45, go_sem]) rfl ?_
      exact ⟨⟨m, rfl⟩, hB.out⟩
end Go.Proofs.YtpknnjcbcndbbaaDoor
namespace Go.Proofs.YtpknnjcbcndbbaaDoor
open Go.RowKit Go.Shelf

set_option maxRecDepth 100000 in
set_option maxHeartbeats 8000000 in
theorem coloured_any {a la : Option Addr} {cap lc : Nat} {g : List Nat} {n : Nat} {ls : Nat → List Nat} (hl : g.length = n) (hn : n ≤ 16) (U : Und g n) (hsm : ∀ i : Nat, Sm (g[i]?.getD 0)) (hls : ∀ i, (ls i).length ≤ 64) : ∀ (m : Nat) (W : World) (p : Option Addr) (c : Nat) (h : Nat → Int), unh n h < m → PreC g n ls h → Sets W a g → ListsAt W la n ls → SrcI W p n h →
    Calls Tryd.prog 71 #[.slice a n cap, .slice la n lc, .slice p n c] W fun e w' => BoolP (ExtC g n ls h) e ∧ Below W.heap.size W w' := by
  intro m
  induction m with
  | zero => intro W p c h hu; omega
  | succ m ih =>
    intro W p c h hu hP hE hL hS
    obtain ⟨i0, hi, hz0, hz1, hz2⟩ := info_parts info3
    have IH : Hid (∀ (W : World) (p : Option Addr) (c : Nat) (h2 : Nat → Int), unh n h2 < unh n h → PreC g n ls h2 → Sets W a g → ListsAt W la n ls → SrcI W p n h2 →
        Calls Tryd.prog 71 #[.slice a n cap, .slice la n lc, .slice p n c] W fun e w' => BoolP (ExtC g n ls h2) e ∧ Below W.heap.size W w') := fun W p c h2 h3 h4 h5 h6 h7 => ih W p c h2 (by omega) h4 h5 h6 h7
    have HP := Lib.hid hP
    have HE := Lib.hid hE
    have HL := Lib.hid hL
    have HS := Lib.hid hS
    have HLS := Lib.hid hls
    have HFR : Hid (∀ (i : Nat) (x : Int) W', i < n → Below W.heap.size W W' → Calls Tryd.prog 92 #[.slice a n cap, .slice p n c, .int .i64 (i : Int), .int .i64 x] W' fun e w' => BoolP (FreeC g n h i x) e ∧ Below W'.heap.size W' w') := fun i x W' hi hB => (ropen_any n a p cap c g h i x W' hl hn U hsm hi (hE.keep hB (Nat.le_refl _)) (hS.below hB (Nat.le_refl _))).mono fun e w' ⟨h1, h2⟩ => ⟨h1, by rw [h2]; exact Below.refl _ _⟩
    clear hP hE hL hS hu hls
    go_enter Tryd.func71, Tryd.ntmps71
    go_upto_region 3 with (fail)
    go_loopw [7, 8, 9] (fun s7 s8 s9 wr => ∃ (k : Nat) (bi fw : Int), k ≤ n ∧ s9 = .int .i64 (k : Int) ∧ s7 = .int .i64 bi ∧ s8 = .int .i64 fw ∧ Hid (BestF h k bi fw) ∧ Hid (Below W.heap.size W wr)) (fun _ _ s9 _ => n - (intOf s9).toNat)
    case atStart => exact ⟨0, -1, 1000, by omega, rfl, rfl, rfl, .inl ⟨rfl, rfl, fun j hj => by omega⟩, Below.refl _ _⟩
    case round =>
      obtain ⟨k, bi, fw, hk, rfl, rfl, rfl, hbi, hB⟩ := hrel
      by_cases hkl : k < n
      · have g1 : (k : Int) < (n : Int) := by omega
        have g0 : (0 : Int) ≤ (k : Int) := by omega
        obtain ⟨b, o, ep, hb, hc⟩ := HS.out (by omega)
        have k1 := (hB.out.cell (p := ⟨b, o + k, none⟩) hb).trans (hc k hkl)
        subst ep
        clear hc
        by_cases hneg : 0 ≤ h k
        · have HN := Lib.hid (hbi.out.pass hneg)
          obtain ⟨z, hz⟩ : ∃ z, Hid (z = h k) := ⟨_, rfl⟩
          rw [← hz.out] at k1 hneg
          go_wp2
          exact ⟨⟨k + 1, bi, fw, by omega, int_eq (by omega), rfl, rfl, HN, hB⟩, by simp [intOf]; omega⟩
        · have HNW := Lib.hid (fun f => BestF.new (h := h) (k := k) f (by omega))
          have hlk := HLS.out k
          obtain ⟨z, hz⟩ : ∃ z, Hid (z = h k) := ⟨_, rfl⟩
          rw [← hz.out] at k1 hneg
          obtain ⟨lm, hlm⟩ : ∃ lm, Hid (lm = (ls k).length) := ⟨_, rfl⟩
          rw [← hlm.out] at hlk
          go_upto_region 8 with (fail)
          clear k1
          go_loopw [10, 11] (fun s10 s11 wr2 => ∃ (kk cnt : Nat), kk ≤ lm ∧ cnt ≤ kk ∧ s11 = .int .i64 (kk : Int) ∧ s10 = .int .i64 (cnt : Int) ∧ Hid (Below W.heap.size W wr2)) (fun _ s11 _ => 64 - (intOf s11).toNat)
          case atStart => exact ⟨0, 0, by omega, by omega, rfl, rfl, hB⟩
          case round =>
            obtain ⟨kk, cnt, hkk, hcnt, rfl, rfl, hB2⟩ := hrel
            obtain ⟨lb, lo, ela, hlb, hlc⟩ := HL.out (by omega)
            obtain ⟨p2, c2, hc1, hc2⟩ := hlc k hkl
            subst ela
            rw [← hlm.out] at hc1 hc2
            have k2 := (hB2.out.cell (p := ⟨lb, lo + k, none⟩) hlb).trans hc1
            clear hlc hc1
            by_cases hkm : kk < lm
            · obtain ⟨qb, qo, ep2, hqb, hqc⟩ := hc2 (by omega)
              subst ep2
              have k3 : wr.cell? ⟨qb, qo + kk, none⟩ = some (.int .i64 (nth (ls k) kk : Nat)) := (hB2.out.cell (p := ⟨qb, qo + kk, none⟩) hqb).trans (hqc kk hkm)
              have g2 : (kk : Int) < (lm : Int) := by omega
              have g3 : (0 : Int) ≤ (kk : Int) := by omega
              obtain ⟨x, hx⟩ : ∃ x, Hid (x = nth (ls k) kk) := ⟨_, rfl⟩
              rw [← hx.out] at k3
              have HF := Lib.hid (HFR.out k (x : Int) _ hkl hB2.out)
              clear hqc hc2
              go_upto_if 45 with (go_at_call 92; refine (HF.out).mono ?_; rintro e w5 ⟨⟨b5, rfl, -⟩, hB5⟩; have HB5 := Lib.hid (hB2.out.trans (hB5.mono hB2.out.size)); clear hB5)
              cases b5 with
              | true =>
                go_wp2
                exact ⟨⟨kk + 1, cnt + 1, by omega, by omega, int_eq (by omega), int_eq (by omega), HB5⟩, by simp [intOf]; omega⟩
              | false =>
                go_wp2
                exact ⟨⟨kk + 1, cnt, by omega, by omega, int_eq (by omega), rfl, HB5⟩, by simp [intOf]; omega⟩
            · have g2 : ¬ (kk : Int) < (lm : Int) := by omega
              clear hc2
              by_cases hcf : (cnt : Int) < fw
              · have HN := Lib.hid (HNW.out (cnt : Int))
                go_wp2
                exact ⟨⟨k + 1, _, _, by omega, int_eq (by omega), rfl, rfl, HN, hB2⟩, by simp [intOf]; omega⟩
              · have HN := Lib.hid (hbi.out.leave (l := cnt) (by omega) hcf)
                go_wp2
                exact ⟨⟨k + 1, bi, fw, by omega, int_eq (by omega), rfl, rfl, HN, hB2⟩, by simp [intOf]; omega⟩
      · have g1 : ¬ (k : Int) < (n : Int) := by omega
        have hke : k = n := by omega
        rw [hke] at hbi
        rcases hbi.out with ⟨rfl, hf, hall⟩ | ⟨i, hi', rfl, hneg⟩
        · have HD := Lib.hid (HP.out.done (hall))
          clear hall hf hke
          go_wp2
          go_ret
          exact ⟨BoolP.yes HD.out, hB.out⟩
        · have hil : i < n := by omega
          have hneg2 := Lib.hid hneg
          have i1 : (i : Int) < (n : Int) := by omega
          have i2 : (0 : Int) ≤ (i : Int) := by omega
          have i3 : ¬ (i : Int) < 0 := by omega
          have hlk := HLS.out i
          obtain ⟨lm, hlm⟩ : ∃ lm, Hid (lm = (ls i).length) := ⟨_, rfl⟩
          rw [← hlm.out] at hlk
          clear hneg hke hbi
          go_upto_region 18 with (fail)
          go_loopw [12] (fun s12 wr2 => ∃ kk : Nat, kk ≤ lm ∧ s12 = .int .i64 (kk : Int) ∧ Hid (∀ j, j < kk → FreeC g n h i (nth (ls i) j : Nat) → ¬ ExtC g n ls (setI h i (nth (ls i) j : Nat))) ∧ Hid (Below W.heap.size W wr2)) (fun s12 _ => 100 - (intOf s12).toNat)
          case atStart => exact ⟨0, by omega, rfl, (fun j hj => by omega), hB⟩
          case round =>
            obtain ⟨kk, hkk, rfl, hno, hB2⟩ := hrel
            obtain ⟨lb, lo, ela, hlb, hlc⟩ := HL.out (by omega)
            obtain ⟨p2, c2, hc1, hc2⟩ := hlc i hil
            subst ela
            rw [← hlm.out] at hc1 hc2
            have k2 := (hB2.out.cell (p := ⟨lb, lo + i, none⟩) hlb).trans hc1
            clear hlc hc1
            by_cases hkm : kk < lm
            · obtain ⟨qb, qo, ep2, hqb, hqc⟩ := hc2 (by omega)
              subst ep2
              have k3 : wr.cell? ⟨qb, qo + kk, none⟩ = some (.int .i64 (nth (ls i) kk : Nat)) := (hB2.out.cell (p := ⟨qb, qo + kk, none⟩) hqb).trans (hqc kk hkm)
              have g2 : (kk : Int) < (lm : Int) := by omega
              have g3 : (0 : Int) ≤ (kk : Int) := by omega
              have HMX : Hid (nth (ls i) kk ∈ ls i) := by
                unfold Hid nth
                rw [List.getElem?_eq_getElem (by rw [← hlm.out]; exact hkm)]
                exact List.getElem_mem _
              have HNX : Hid ((FreeC g n h i (nth (ls i) kk : Nat) → ¬ ExtC g n ls (setI h i (nth (ls i) kk : Nat))) → ∀ j, j < kk + 1 → FreeC g n h i (nth (ls i) j : Nat) → ¬ ExtC g n ls (setI h i (nth (ls i) j : Nat))) := fun hh j hj => by
                by_cases e : j = kk
                · subst e; exact hh
                · exact hno.out j (by omega)
              obtain ⟨x, hx⟩ : ∃ x, Hid (x = nth (ls i) kk) := ⟨_, rfl⟩
              rw [← hx.out] at k3 HMX HNX
              have HF := Lib.hid (HFR.out i (x : Int) _ hil hB2.out)
              clear hqc hc2
              go_upto_if 76 with (go_at_call 92; refine (HF.out).mono ?_; rintro e w5 ⟨⟨b5, rfl, hb5⟩, hB5⟩; have HB5 := Lib.hid (hB2.out.trans (hB5.mono hB2.out.size)); have HF5 := Lib.hid hb5; clear hB5 hb5)
              cases b5 with
              | false =>
                have HN : Hid (∀ j, j < kk + 1 → FreeC g n h i (nth (ls i) j : Nat) → ¬ ExtC g n ls (setI h i (nth (ls i) j : Nat))) := HNX.out fun hf => absurd (HF5.out.2 hf) (by simp)
                go_wp2
                exact ⟨⟨kk + 1, by omega, int_eq (by omega), HN, HB5⟩, by simp [intOf]; omega⟩
              | true =>
                have HFF : Hid (FreeC g n h i (x : Int)) := HF5.out.1 rfl
                have hsz5 := HB5.out.size
                obtain ⟨b, o, ep, hb, hc⟩ := HS.out (by omega)
                subst ep
                have HSW := Lib.hid ((HS.out.below HB5.out (Nat.le_refl _)).src)
                have HONE := Lib.hid (ivI_one h n)
                clear hc k2 k3
                go_upto_region 24 with (at_builtin; go_must (refine wpList_append_qq _ rfl (.tmp 77) (.tmp 78) 25 rfl w5.heap.size 3 i0 (.int .i64 0) 1 8 Tryd.underlying25 hi hz0 hz1 hz2 rfl (by decide) _ 0 [] rfl (QRow.nil _ _ _ _) (some ⟨b, o, none⟩) n c (ivI h n) rfl HSW.out HONE.out (by unfold maxLen; omega) (by omega) (Nat.le_refl _) ?_); intro v6 w6 hq6 hg6 ho6; have HB6 : Hid (Below w5.heap.size w5 w6) := Below.grown (Below.refl _ w5) hg6 (Nat.le_refl _) (fun kk e => by cases e); have HQ6 : Hid (QRow w6 w5.heap.size 3 1 v6 n (ivI h n)) := (by rw [Nat.zero_add, List.nil_append] at hq6; exact hq6); clear hq6 hg6 ho6)
                obtain ⟨g6, o6, c6, e6, hb6, hl6, hn6, hm6, hc6, hf6⟩ := HQ6.out.at (by omega)
                subst e6
                have hf7 := hf6 (o6 + i)
                have hc7 := (hc6 i (by omega)).trans (ivI_get h n i hil)
                have HB7 : Hid (Below w5.heap.size w5 (w6.setCell ⟨g6, o6 + i, none⟩ (.int .i64 (x : Int)))) := HB6.out.setCell (p := ⟨g6, o6 + i, none⟩) hb6 _
                have HQ7 := Lib.hid (HQ6.out.set i (by omega) (.int .i64 (x : Int)))
                have HS7 : Hid (SrcI (w6.setCell ⟨g6, o6 + i, none⟩ (.int .i64 (x : Int))) (some ⟨g6, o6, none⟩) n (setI h i (x : Int))) := HQ7.out.srcI fun j hj => by
                  unfold setI
                  by_cases e : j = i
                  · subst e; rw [if_pos rfl, List.getElem?_set_self (by rw [ivI_len]; exact hj)]
                  · rw [if_neg e, List.getElem?_set_ne (fun h => e h.symm)]; exact ivI_get h n j hj
                have hBW := HB5.out.trans (HB7.out.mono HB5.out.size)
                have HBW := Lib.hid hBW
                have HRC := Lib.hid (IH.out (w6.setCell ⟨g6, o6 + i, none⟩ (.int .i64 (x : Int))) (some ⟨g6, o6, none⟩) c6 (setI h i (x : Int)) (unh_set hil hneg2.out x) (HP.out.step U.sym hil HMX.out HFF.out) (HE.out.keep hBW (Nat.le_refl _)) (HL.out.below hBW (Nat.le_refl _)) HS7.out)
                clear hc6 hf6 hBW
                go_upto_if 87 with (go_at_call 71; refine (HRC.out).mono ?_; rintro e w8 ⟨⟨b8, rfl, hb8⟩, hB8⟩; have HB8 := Lib.hid (HBW.out.trans (hB8.mono HBW.out.size)); have HX8 := Lib.hid hb8; clear hB8 hb8)
                cases b8 with
                | true =>
                  have HD : Hid (ExtC g n ls h) := (HX8.out.1 rfl).back hneg2.out
                  go_wp2
                  go_ret
                  exact ⟨BoolP.yes HD.out, HB8.out⟩
                | false =>
                  have HN : Hid (∀ j, j < kk + 1 → FreeC g n h i (nth (ls i) j : Nat) → ¬ ExtC g n ls (setI h i (nth (ls i) j : Nat))) := HNX.out fun _ hE => absurd (HX8.out.2 hE) (by simp)
                  go_wp2
                  exact ⟨⟨kk + 1, by omega, int_eq (by omega), HN, HB8⟩, by simp [intOf]; omega⟩
            · have g2 : ¬ (kk : Int) < (lm : Int) := by omega
              have HNE : Hid (¬ ExtC g n ls h) := fun hE => by
                obtain ⟨x, hx, hf, hx2⟩ := hE.step hil hneg2.out
                obtain ⟨j, hj, rfl⟩ := List.getElem_of_mem hx
                have e : nth (ls i) j = (ls i)[j] := by unfold nth; rw [List.getElem?_eq_getElem hj]; rfl
                refine hno.out j (by rw [← hlm.out] at hj; omega) ?_ ?_
                · rw [e]; exact hf
                · rw [e]; exact hx2
              clear hc2
              go_wp2
              go_ret
              exact ⟨BoolP.no HNE.out, hB2.out⟩
set_option maxRecDepth 100000 in
set_option maxHeartbeats 2000000 in
theorem rcolourable_any {a la : Option Addr} {cap lc : Nat} {g : List Nat} {n : Nat} {ls : Nat → List Nat} (hl : g.length = n) (hn : n ≤ 16) (U : Und g n) (hsm : ∀ i : Nat, Sm (g[i]?.getD 0)) (hls : ∀ i, (ls i).length ≤ 64) (w : World) (hE : Sets w a g) (hL : ListsAt w la n ls) :
    Calls Tryd.prog 44 #[.slice a n cap, .slice la n lc] w fun e w' => BoolP (∃ f, FamC g n ls f) e ∧ Below w.heap.size w w' := by
  obtain ⟨vs0, hv1, hv2, HMK⟩ := make_25b n (by omega)
  have HV1 := Lib.hid hv1
  have HV2 := Lib.hid hv2
  have HP : Hid (∀ W p c, Below w.heap.size w W → SrcI W p n (fun _ => -1) → Calls Tryd.prog 71 #[.slice a n cap, .slice la n lc, .slice p n c] W fun e w' => BoolP (∃ f, FamC g n ls f) e ∧ Below W.heap.size W w') := fun W p c hB hS => by
    have := coloured_any (cap := cap) (lc := lc) hl hn U hsm hls (unh n (fun _ => -1) + 1) W p c (fun _ => -1) (by omega) (PreC.start g n ls) (hE.keep hB (Nat.le_refl _)) (hL.below hB (Nat.le_refl _)) hS
    refine this.mono ?_
    rintro e w' ⟨⟨b, h1, h2⟩, h3⟩
    exact ⟨⟨b, h1, h2.trans ExtC.start⟩, h3⟩
  clear hE hL hv1 hv2
  go_enter Tryd.func44, Tryd.ntmps44
  go_upto_region 3 with (fail)
  obtain ⟨b, hb⟩ : ∃ b, Hid (b = w.heap.size) := ⟨_, rfl⟩
  have hR0 : RowB (w.alloc (.cells vs0 3)) b n (fun _ => 0) := ⟨vs0, BoxN.new hb.out, HV1.out, fun j hj => HV2.out j hj⟩
  have hBV : Below w.heap.size w (w.alloc (.cells vs0 3)) := (Below.refl _ _).alloc (Nat.le_refl _) _
  rw [← hb.out]
  generalize (w.alloc (.cells vs0 3)) = V at *
  have HR0 := Lib.hid hR0
  have HBV := Lib.hid hBV
  clear hR0 hBV HMK
  go_loopw [6] (fun s6 wr => ∃ j : Nat, j ≤ n ∧ s6 = .int .i64 (j : Int) ∧ Hid (RowB wr b n (fun v => if v < j then -1 else 0)) ∧ Hid (Below w.heap.size w wr)) (fun s6 _ => n - (intOf s6).toNat)
  case atStart => exact ⟨0, by omega, rfl, HR0.out.congr fun x _ => by simp, HBV⟩
  case round =>
    obtain ⟨j, hj, rfl, hR, hB⟩ := hrel
    by_cases hjn : j < n
    · have h1 : (j : Int) < (n : Int) := by omega
      have h2 : (0 : Int) ≤ (j : Int) := by omega
      have hf := hR.out.frozen j
      have hc := hR.out.cell hjn
      have HRN : Hid (RowB (wr.setCell ⟨b, j, none⟩ (.int .i64 (-1))) b n (fun v => if v < j + 1 then -1 else 0)) := (hR.out.set hjn (-1)).congr fun x _ => by
        by_cases e : x = j
        · subst e; simp
        · rw [if_neg e]
          by_cases h : x < j
          · rw [if_pos h, if_pos (by omega)]
          · rw [if_neg h, if_neg (by omega)]
      have HAN := Lib.hid (hB.out.setCell (p := ⟨b, j, none⟩) (by simp [hb.out]) (.int .i64 (-1)))
      go_wp2
      exact ⟨⟨j + 1, by omega, int_eq (by omega), HRN, HAN⟩, by simp [intOf]; omega⟩
    · have h1 : ¬ (j : Int) < (n : Int) := by omega
      have hRL : RowB wr b n (fun _ => -1) := hR.out.congr fun x hx => by rw [if_pos (by omega)]
      have HS : Hid (SrcI wr (some ⟨b, 0, none⟩) n (fun _ => -1)) := fun _ => ⟨b, 0, rfl, hRL.lt, fun j hj => by rw [Nat.zero_add]; exact hRL.cell hj⟩
      have HC := Lib.hid (HP.out wr (some ⟨b, 0, none⟩) n hB.out HS.out)
      clear hRL
      go_wp2_with (go_at_call 71; refine (HC.out).mono ?_; rintro e w8 ⟨⟨b8, rfl, hb8⟩, hB8⟩; have HB8 := Lib.hid (hB.out.trans (hB8.mono hB.out.size)); have HX8 := Lib.hid hb8; clear hB8 hb8)
      go_ret
      exact ⟨⟨b8, rfl, HX8.out⟩, HB8.out⟩
end Go.Proofs.YtpknnjcbcndbbaaDoor
namespace Go.Proofs.YtpknnjcbcndbbaaDoor
open Go.RowKit Go.Shelf

theorem famC_of {g : List Nat} {n : Nat} {L : Nat → Nat} {ls : Nat → List Nat} {f : Nat → Nat} (hM : ∀ i, i < n → ∀ x, x ∈ ls i ↔ (L i).testBit x = true) (h : ColOK g n L f) : FamC g n ls f :=
  ⟨fun i hi => (hM i hi _).2 (h.1 i hi), fun i k _ _ _ ha => h.2 i k ha⟩
theorem colOK_of {g : List Nat} {n : Nat} {L : Nat → Nat} {ls : Nat → List Nat} {f : Nat → Nat} (U : Und g n) (hM : ∀ i, i < n → ∀ x, x ∈ ls i ↔ (L i).testBit x = true) (h : FamC g n ls f) : ColOK g n L f :=
  ⟨fun i hi => (hM i hi _).1 (h.1 i hi), fun v w ha => h.2 v w (U.lt _ _ ha).1 (U.lt _ _ ha).2 (U.ne _ _ ha) ha⟩
/-- what Colours answers -/
def ColsA (g : List Nat) (n : Nat) (ls : Nat → List Int) (m : Nat) (W' : World) (e : Ending) : Prop :=
  (e = .returned (.tuple #[.slice none 0 0, .bool false, .int .i64 70]) ∧ ¬ ListsP ls m n) ∨
  (e = .returned (.tuple #[.slice none 0 0, .bool false, .int .i64 2]) ∧ ListsP ls m n ∧ 10 < n) ∨
  (e = .returned (.tuple #[.slice none 0 0, .bool false, .int .i64 0]) ∧ ListsP ls m n ∧ n ≤ 10 ∧ ¬ ∃ f, FamC g n (natL ls) f) ∨
  (∃ p c f, e = .returned (.tuple #[.slice p n c, .bool true, .int .i64 0]) ∧ ListsP ls m n ∧ n ≤ 10 ∧ FamC g n (natL ls) f ∧ SrcI W' p n (fun j => (f j : Int)))
set_option maxRecDepth 100000 in
set_option maxHeartbeats 4000000 in
theorem Colours_ok (n : Nat) (a la : Option Addr) (cap m lc : Nat) (ps : List (Int × Int)) (ls : Nat → List Int) (w : World) (hT : Tab w) (hG : Good n ps a w) (hm : m ≤ 1099511627776) (hll : ∀ i, (ls i).length ≤ 1000) (hL : LstI w la m ls) :
    Calls Tryd.prog 43 #[.int .i64 (n : Int), .slice a ps.length cap, .slice la m lc] w fun e w' => ColsA (ofE n ps) n ls m w' e ∧ Below w.heap.size w w' := by
  have HO := Lib.hid (gopen_ok n a cap ps w hG.hl hG.hg hG.n1 hG.n2 hG.ok)
  have HT := Lib.hid hT
  have hn1 := hG.n1
  have hn2 := hG.n2
  have HU := Lib.hid (und_ofE hG.ok)
  have HSM := Lib.hid (ofE_sm hG.n2 hG.ok)
  have HSE : Hid (∀ W, Below w.heap.size w W → Calls Tryd.prog 67 #[.slice la m lc, .int .i64 (n : Int)] W fun e w' => SetsA ls m n w' W.heap.size e ∧ Below W.heap.size W w') := fun W hW => sets_any la m n lc ls W hm hll (hL.below hW (Nat.le_refl _))
  clear hT hG hL
  obtain ⟨g, hg⟩ : ∃ g, Hid (g = ofE n ps) := ⟨_, rfl⟩
  rw [← hg.out] at HO HU HSM ⊢
  go_enter Tryd.func43, Tryd.ntmps43
  go_upto_region 4 with (go_at_call 52; refine HO.out.mono ?_; rintro e w1 ⟨B, rfl, hBl, hg1, hb1⟩; have HG1 := Lib.hid hg1; have HB1 := Lib.hid hb1; clear hBl hg1 hb1)
  have HC := Lib.hid (HSE.out w1 HB1.out)
  clear HSE HO
  go_upto_region 5 with (go_at_call 67; refine (HC.out).mono ?_; rintro e w2 ⟨hs2, hB2⟩; have HB2 := Lib.hid hB2; clear hB2; rcases hs2 with ⟨rfl, hn⟩ | ⟨p2, c2, rfl, hl2, hr2⟩)
  · have HN := Lib.hid hn
    clear hn
    go_wp2
    refine bodyPost_ret (v := .tuple #[.slice none 0 0, .bool false, .int .i64 70]) (by simp [results, Tryd.f43, go_sem]) rfl ?_
    exact ⟨.inl ⟨rfl, HN.out⟩, HB1.out.trans (HB2.out.mono HB1.out.size)⟩
  · have HLP := Lib.hid hl2
    have hml := hl2.2
    have HBW := Lib.hid (HB1.out.trans (HB2.out.mono HB1.out.size))
    have hru : RowU w2 p2 n (maskL ls m) := by rw [← hml]; exact hr2.congr fun i hi => by unfold maskL; rw [if_pos hi]
    have HL64 : Hid (∀ i, maskL ls m i < 18446744073709551616) := fun i => by
      unfold maskL
      by_cases h : i < m
      · rw [if_pos h]; exact mskTo_lt (hl2.1 i h)
      · rw [if_neg h]; decide
    have HMK : Hid (∀ i, i < n → ∀ x, x ∈ natL ls i ↔ (maskL ls m i).testBit x = true) := fun i hi x => by
      have hi' : i < m := by omega
      unfold maskL
      rw [if_pos hi', mem_natL (hl2.1 i hi'), mask_of (hl2.1 i hi')]
    obtain ⟨lb, lq, rfl, hlb, hlc⟩ := hru (by omega)
    have HRL : Hid (lb < w2.heap.size ∧ ∀ v, v < n → w2.cell? ⟨lb, lq + v, none⟩ = some (.int .u64 (maskL ls m v : Nat))) := ⟨hlb, hlc⟩
    clear hl2 hr2 HC hru hlb hlc
    by_cases h12 : 10 < n
    · have g1 : (10 : Int) < (n : Int) := by omega
      go_wp2
      refine bodyPost_ret (v := .tuple #[.slice none 0 0, .bool false, .int .i64 2]) (by simp [results, Tryd.f43, go_sem]) rfl ?_
      exact ⟨.inr (.inl ⟨rfl, HLP.out, h12⟩), HBW.out⟩
    · have g1 : ¬ (10 : Int) < (n : Int) := by omega
      have g2 : decide ((10 : Int) < (n : Int)) = false := decide_eq_false g1
      rw [hml]
      have HCH := Lib.hid (colours_any B n a cap ps.length g lb lq c2 (maskL ls m) w2 (HT.out.below HBW.out (Nat.le_refl _)) (HG1.out.below HB2.out (Nat.le_refl _)) HSM.out HU.out hn1 hn2 HL64.out HRL.out)
      go_upto_region 10 with (go_at_call 70; refine (HCH.out).mono ?_; rintro e w3 ⟨hs3, hB3⟩; have HB3 := Lib.hid (HBW.out.trans (hB3.mono HBW.out.size)); clear hB3; rcases hs3 with ⟨rfl, hn⟩ | ⟨ob, cc, rfl, -, hr3, -, ho3⟩)
      · have HN : Hid (¬ ∃ f, FamC g n (natL ls) f) := fun ⟨f, F⟩ => hn ⟨f, colOK_of HU.out HMK.out F⟩
        clear hn
        go_wp2
        refine bodyPost_ret (v := .tuple #[.slice none 0 0, .bool false, .int .i64 0]) (by simp [results, Tryd.f43, go_sem]) rfl ?_
        exact ⟨.inr (.inr (.inl ⟨rfl, HLP.out, by omega, HN.out⟩)), HB3.out⟩
      · have HF := Lib.hid (famC_of HMK.out ho3)
        have HS : Hid (SrcI w3 (some ⟨ob, 0, none⟩) n (fun j => (cc j : Int))) := fun _ => ⟨ob, 0, rfl, hr3.lt, fun j hj => by rw [Nat.zero_add]; exact hr3.cell hj⟩
        clear hr3 ho3
        go_wp2
        refine bodyPost_ret (v := .tuple #[.slice (some ⟨ob, 0, none⟩) n n, .bool true, .int .i64 0]) (by simp [results, Tryd.f43, go_sem]) rfl ?_
        exact ⟨.inr (.inr (.inr ⟨_, _, cc, rfl, HLP.out, by omega, HF.out, HS.out⟩)), HB3.out⟩
end Go.Proofs.YtpknnjcbcndbbaaDoor
namespace Go.Proofs.YtpknnjcbcndbbaaDoor
open Go.RowKit Go.Shelf

theorem ChrIs.unique {g : List Nat} {n k j : Nat} (h : ChrIs g n k) (h' : ChrIs g n j) : k = j := by
  rcases Nat.lt_trichotomy k j with hlt | e | hlt
  · exact absurd h.2.1 (h'.2.2 k h.1 hlt)
  · exact e
  · exact absurd h'.2.1 (h.2.2 j h'.1 hlt)
theorem colK_fam {g : List Nat} {n k : Nat} (U : Und g n) : (∃ f, FamC g n (fun _ => List.range k) f) ↔ ColK g n k := by
  have hM : ∀ i, i < n → ∀ x, x ∈ List.range k ↔ ((fun _ : Nat => low k) i).testBit x = true := fun i _ x => by
    rw [List.mem_range, low_bit]; simp
  exact ⟨fun ⟨f, F⟩ => ⟨f, colOK_of (L := fun _ => low k) U hM F⟩, fun ⟨c, C⟩ => ⟨c, famC_of (L := fun _ => low k) hM C⟩⟩
set_option maxRecDepth 100000 in
set_option maxHeartbeats 2000000 in
theorem rchromatic_any (n : Nat) (a : Option Addr) (cap : Nat) (g : List Nat) (w : World) (hl : g.length = n) (hn1 : 1 ≤ n) (hn : n ≤ 16) (U : Und g n) (hsm : ∀ i : Nat, Sm (g[i]?.getD 0)) (hg : Sets w a g) :
    Calls Tryd.prog 47 #[.slice a n cap] w fun e w' => (∃ k : Nat, e = .returned (.int .i64 (k : Int)) ∧ ChrIs g n k) ∧ Below w.heap.size w w' := by
  have HSA : Hid (∀ (k : Nat) W, k ≤ 16 → Calls Tryd.prog 60 #[.int .i64 (k : Int), .int .i64 (n : Int)] W fun e w' => (∃ p c, e = .returned (.slice p n c) ∧ ListsAt w' p n (fun _ => List.range k)) ∧ Below W.heap.size W w') := fun k W hk =>
    (same_any k n W (by omega) (by omega)).mono fun e w' ⟨v, h1, h2, h3⟩ => by
      obtain ⟨xs, h4, h5⟩ := h2
      obtain ⟨p, c, rfl⟩ := h4.isSlice
      exact ⟨⟨p, c, h1, RowsAt.lists ⟨xs, h4, h5⟩⟩, h3⟩
  have HCO : Hid (∀ (k : Nat) W p c, k ≤ 16 → Below w.heap.size w W → ListsAt W p n (fun _ => List.range k) → Calls Tryd.prog 44 #[.slice a n cap, .slice p n c] W fun e w' => BoolP (ColK g n k) e ∧ Below W.heap.size W w') := fun k W p c hk hW hL =>
    (rcolourable_any (cap := cap) (lc := c) hl hn U hsm (fun _ => by rw [List.length_range]; omega) W (hg.keep hW (Nat.le_refl _)) hL).mono fun e w' ⟨⟨b, h1, h2⟩, h3⟩ => ⟨⟨b, h1, h2.trans (colK_fam U)⟩, h3⟩
  have HSF := Lib.hid (colK_self U)
  clear hl U hsm hg
  go_enter Tryd.func47, Tryd.ntmps47
  go_upto_region 2 with (fail)
  go_loopw [3] (fun s3 wr => ∃ k : Nat, 1 ≤ k ∧ k ≤ n ∧ s3 = .int .i64 (k : Int) ∧ Hid (∀ j, 1 ≤ j → j < k → ¬ ColK g n j) ∧ Hid (Below w.heap.size w wr)) (fun s3 _ => 40 - (intOf s3).toNat)
  case atStart => exact ⟨1, by omega, hn1, rfl, (fun j h1 h2 => by omega), Below.refl _ _⟩
  case round =>
    obtain ⟨k, hk1, hkn, rfl, hno, hB⟩ := hrel
    have HS := Lib.hid (HSA.out k wr (by omega))
    by_cases hck : ColK g n k
    · have HIS : Hid (ChrIs g n k) := ⟨hk1, hck, hno.out⟩
      have HCK := Lib.hid hck
      clear hck
      go_wp2_with (first
        | (go_at_call 60; refine (HS.out).mono ?_; rintro e w4 ⟨⟨p4, c4, rfl, hl4⟩, hB4⟩; have HL4 := Lib.hid hl4; have HB4 := Lib.hid (hB.out.trans (hB4.mono hB.out.size)); clear hB4 hl4)
        | (go_at_call 44; refine (HCO.out k _ p4 c4 (by omega) HB4.out HL4.out).mono ?_; rintro e w5 ⟨h5, hB5⟩; obtain rfl := h5.dec (b := true) ⟨fun _ => HCK.out, fun _ => rfl⟩; have HB5 := Lib.hid (HB4.out.trans (hB5.mono HB4.out.size)); clear h5 hB5; try dsimp only))
      go_ret
      exact ⟨⟨k, rfl, HIS.out⟩, HB5.out⟩
    · have HCK := Lib.hid hck
      have hkn2 : k < n := Nat.lt_of_le_of_ne hkn fun e => hck (by rw [e]; exact HSF.out)
      have HNO : Hid (∀ j, 1 ≤ j → j < k + 1 → ¬ ColK g n j) := fun j h1 h2 => by
        by_cases e : j = k
        · subst e; exact hck
        · exact hno.out j h1 (by omega)
      clear hck
      go_wp2_with (first
        | (go_at_call 60; refine (HS.out).mono ?_; rintro e w4 ⟨⟨p4, c4, rfl, hl4⟩, hB4⟩; have HL4 := Lib.hid hl4; have HB4 := Lib.hid (hB.out.trans (hB4.mono hB.out.size)); clear hB4 hl4)
        | (go_at_call 44; refine (HCO.out k _ p4 c4 (by omega) HB4.out HL4.out).mono ?_; rintro e w5 ⟨h5, hB5⟩; obtain rfl := h5.dec (b := false) ⟨(fun h => by cases h), fun h => absurd h HCK.out⟩; have HB5 := Lib.hid (HB4.out.trans (hB5.mono HB4.out.size)); clear h5 hB5; try dsimp only))
      exact ⟨⟨k + 1, by omega, by omega, int_eq (by omega), HNO, HB5⟩, by simp [intOf]; omega⟩
end Go.Proofs.YtpknnjcbcndbbaaDoor
