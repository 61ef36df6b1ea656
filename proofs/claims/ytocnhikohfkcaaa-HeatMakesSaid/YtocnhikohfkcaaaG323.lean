/- Two lists of rounds compared: same. Walk. The reference: Circle. Walk. Tables of integers that the call has made; the reference: meets. The reference: Carry. Walk. The reference: IsBalanced. Walk. The balanced schedules of 4, 8 and 16 boats. Walks. The balanced schedules in plain text: they are schedules, and balanced. HeatMakes: walk. -/
import Derived.Test.YtocnhikohfkcaaaG322
import Derived.Test.YtocnhikohfkcaaaG313
import Derived.Test.YtocnhikohfkcaaaG309
set_option linter.unusedVariables false
set_option linter.unusedSimpArgs false
namespace Go.Proofs.Ytocnhikohfkcaaa
open Go.RowKit Go.Shelf
attribute [local go_sem] Oper.semAt_some

theorem RCheck_any (z : Int) (p : Option Addr) (c : Nat) (s : List (List I2)) (w : World) (hS : SrcS w p s) :
    Calls Try.prog 15 #[.int .i64 z, .slice p s.length c] w fun e w' => (∃ v : Int, e = .returned (.int .i64 v) ∧ ChkP z s v) ∧ Below w.heap.size w w' := by
  by_cases h : EvP z
  · obtain ⟨n, rfl⟩ : ∃ n : Nat, z = (n : Int) := ⟨z.toNat, by have := h.1; omega⟩
    have h3 := h.2.2
    rw [Int.toNat_natCast] at h3
    refine (RCheck_in n p c s w (by have := h.1; omega) (by have := h.2.1; omega) h3 hS).mono fun e w' ⟨⟨v, e1, hv⟩, hB⟩ => ⟨⟨v, e1, ?_⟩, hB⟩
    rcases hv with ⟨h1, h2⟩ | ⟨h1, h2⟩
    · exact .inr (.inl ⟨h, by simpa using h1, h2⟩)
    · exact .inr (.inr ⟨h, by simpa using h1, h2⟩)
  · have HE := Lib.hid (REven_any z w)
    rw [decide_eq_false h] at HE
    have HF := Lib.hid h
    obtain ⟨len, HL⟩ : ∃ len, Hid (s.length = len) := ⟨_, rfl⟩
    rw [HL.out]
    clear hS h
    go_enter Try.func15, Try.ntmps15
    go_wp2_with (go_at_call 12; refine HE.out.mono ?_; rintro e w4 ⟨rfl, hw4⟩; replace hw4 := hw4.symm; subst hw4; try dsimp only)
    go_ret
    exact ⟨⟨1, rfl, .inl ⟨HF.out, rfl⟩⟩, Below.refl _ _⟩
set_option maxRecDepth 100000 in
set_option maxHeartbeats 8000000 in
theorem same_any (p q : Option Addr) (c d : Nat) (s t : List (List I2)) (w : World) (hl : s.length ≤ 1000) (hl2 : ∀ r ∈ s, r.length ≤ 1000) (hS : SrcS w p s) (hT : SrcS w q t) :
    Calls Try.prog 13 #[.slice p s.length c, .slice q t.length d] w fun e w' => TellsP (s = t) e ∧ Below w.heap.size w w' := by
  have HS := Lib.hid hS
  have HT := Lib.hid hT
  have HL2 := Lib.hid hl2
  obtain ⟨ls, HLS⟩ : ∃ ls, Hid (s.length = ls) := ⟨_, rfl⟩
  obtain ⟨lt, HLT⟩ : ∃ lt, Hid (t.length = lt) := ⟨_, rfl⟩
  rw [HLS.out] at hl ⊢
  rw [HLT.out]
  clear hS hT hl2
  go_enter Try.func13, Try.ntmps13
  by_cases hst : ls = lt
  · have HST := Lib.hid hst
    have q1 : ((ls : Int) != (lt : Int)) = false := by simp; omega
    go_upto_region 4 with (fail)
    clear q1
    go_loopw [5] (fun s5 wr => ∃ i : Nat, i ≤ ls ∧ s5 = .int .i64 (i : Int) ∧ Hid (s.take i = t.take i) ∧ Hid (Below w.heap.size w wr)) (fun s5 _ => ls - (intOf s5).toNat)
    case atStart => exact ⟨0, by omega, rfl, rfl, Below.refl _ _⟩
    case round =>
      obtain ⟨i, hi, rfl, hE, hB⟩ := hrel
      have hwr : w.heap.size ≤ wr.heap.size := hB.out.size
      by_cases hin : i < ls
      · have g1 : (i : Int) < (ls : Int) := by omega
        have hil : i < s.length := by rw [HLS.out]; exact hin
        have hil2 : i < t.length := by rw [HLT.out]; omega
        obtain ⟨b, o, rfl, hb, hcs⟩ := HS.out (by omega)
        obtain ⟨q1, cq, k1, hcq, hz⟩ := hcs i hil
        obtain ⟨b2, o2, rfl, hb2, hcs2⟩ := HT.out (by omega)
        obtain ⟨q2, cq2, k2, hcq2, hz2⟩ := hcs2 i hil2
        have HTK : Hid (s.take (i + 1) = s.take i ++ [s[i]]) := by unfold Hid; rw [List.take_add_one, List.getElem?_eq_getElem hil]; rfl
        have HTK2 : Hid (t.take (i + 1) = t.take i ++ [t[i]]) := by unfold Hid; rw [List.take_add_one, List.getElem?_eq_getElem hil2]; rfl
        have hrl := HL2.out _ (List.getElem_mem hil)
        have HNE : Hid (s = t → s[i] = t[i]) := fun H => by subst H; rfl
        generalize s[i] = u at *
        generalize t[i] = v at *
        obtain ⟨ul, hul⟩ : ∃ ul, Hid (u.length = ul) := ⟨_, rfl⟩
        obtain ⟨vl, hvl⟩ : ∃ vl, Hid (v.length = vl) := ⟨_, rfl⟩
        rw [hul.out] at k1 hcq hrl
        rw [hvl.out] at k2 hcq2
        have HU := Lib.hid hz
        have HV := Lib.hid hz2
        have HC1 : Hid (∀ W, Below w.heap.size w W → W.cell? ⟨b, o + i, none⟩ = some (.slice q1 ul cq)) := fun W hW => (hW.cell (p := ⟨b, o + i, none⟩) hb).trans k1
        have HC2 : Hid (∀ W, Below w.heap.size w W → W.cell? ⟨b2, o2 + i, none⟩ = some (.slice q2 vl cq2)) := fun W hW => (hW.cell (p := ⟨b2, o2 + i, none⟩) hb2).trans k2
        have HBD : Hid (∀ d : BW wr.heap.size wr, Below w.heap.size w d.w) := fun d => hB.out.trans (d.b.mono hwr)
        have r1 : ∀ d : BW wr.heap.size wr, d.w.cell? ⟨b, o + i, none⟩ = some (.slice q1 ul cq) := fun d => HC1.out _ (HBD.out d)
        have r2 : ∀ d : BW wr.heap.size wr, d.w.cell? ⟨b2, o2 + i, none⟩ = some (.slice q2 vl cq2) := fun d => HC2.out _ (HBD.out d)
        have di : decide (i < ls) = true := by simpa using hin
        have di2 : decide (i < lt) = true := by simp; omega
        have hilt : (i : Int) < (lt : Int) := by omega
        clear k1 k2 hz hz2 hcs hcs2
        go_wp2
        refine wp_region_bw (by kernel_rfl) (by kernel_rfl) ?_
        repeat (go_big_quiet_step (rfl))
        refine wpQuiet_nil ?_
        rintro _ ⟨d1, rfl⟩
        have HB2 := Lib.hid (HBD.out d1)
        clear r1 r2 HBD hB
        generalize d1.w = wd at *
        by_cases huv : ul = vl
        · have q3 : ((ul : Int) != (vl : Int)) = false := by simp; omega
          have HUV := Lib.hid huv
          go_upto_region 9 with (fail)
          clear q3
          go_loopw [6] (fun s6 wq => ∃ j : Nat, j ≤ ul ∧ s6 = .int .i64 (j : Int) ∧ Hid (u.take j = v.take j) ∧ Hid (Below w.heap.size w wq)) (fun s6 _ => ul - (intOf s6).toNat)
          case atStart => exact ⟨0, by omega, rfl, rfl, HB2⟩
          case round =>
            clear HB2
            obtain ⟨j, hj, rfl, hEj, hBj⟩ := hrel
            have hwr2 : w.heap.size ≤ wr.heap.size := hBj.out.size
            have r1 := HC1.out _ hBj.out
            by_cases hjd : j < ul
            · have g2 : (j : Int) < (ul : Int) := by omega
              have hjl : j < u.length := by rw [hul.out]; exact hjd
              have hjl2 : j < v.length := by rw [hvl.out]; omega
              obtain ⟨b3, o3, rfl, hb3, hc3⟩ := HU.out (by omega)
              obtain ⟨c1, c2⟩ := hc3 j hjl
              obtain ⟨b4, o4, rfl, hb4, hc4⟩ := HV.out (by omega)
              obtain ⟨c3, c4⟩ := hc4 j hjl2
              have HTJ : Hid (u.take (j + 1) = u.take j ++ [u[j]]) := by unfold Hid; rw [List.take_add_one, List.getElem?_eq_getElem hjl]; rfl
              have HTJ2 : Hid (v.take (j + 1) = v.take j ++ [v[j]]) := by unfold Hid; rw [List.take_add_one, List.getElem?_eq_getElem hjl2]; rfl
              have HNJ : Hid (u = v → u[j] = v[j]) := fun H => by subst H; rfl
              generalize u[j] = x at *
              generalize v[j] = y at *
              obtain ⟨x1, x2⟩ := x
              obtain ⟨y1, y2⟩ := y
              simp only at c1 c2 c3 c4
              have HBD : Hid (∀ d : BW wr.heap.size wr, Below w.heap.size w d.w) := fun d => hBj.out.trans (d.b.mono hwr2)
              have d1 : ∀ d : BW wr.heap.size wr, d.w.cell? ⟨b, o + i, none⟩ = some (.slice (some ⟨b3, o3, none⟩) ul cq) := fun d => HC1.out _ (HBD.out d)
              have d2 : ∀ d : BW wr.heap.size wr, d.w.cell? ⟨b2, o2 + i, none⟩ = some (.slice (some ⟨b4, o4, none⟩) vl cq2) := fun d => HC2.out _ (HBD.out d)
              have d3 : ∀ d : BW wr.heap.size wr, d.w.cell? ⟨b3, o3 + j * 2, none⟩ = some (.int .i64 x1) := fun d => ((HBD.out d).cell (p := ⟨b3, o3 + j * 2, none⟩) hb3).trans c1
              have d4 : ∀ d : BW wr.heap.size wr, d.w.cell? ⟨b3, o3 + j * 2 + 1, none⟩ = some (.int .i64 x2) := fun d => ((HBD.out d).cell (p := ⟨b3, o3 + j * 2 + 1, none⟩) hb3).trans c2
              have d5 : ∀ d : BW wr.heap.size wr, d.w.cell? ⟨b4, o4 + j * 2, none⟩ = some (.int .i64 y1) := fun d => ((HBD.out d).cell (p := ⟨b4, o4 + j * 2, none⟩) hb4).trans c3
              have d6 : ∀ d : BW wr.heap.size wr, d.w.cell? ⟨b4, o4 + j * 2 + 1, none⟩ = some (.int .i64 y2) := fun d => ((HBD.out d).cell (p := ⟨b4, o4 + j * 2 + 1, none⟩) hb4).trans c4
              have dj : decide (j < ul) = true := by simpa using hjd
              have dj2 : decide (j < vl) = true := by simp; omega
              clear c1 c2 c3 c4 hc3 hc4
              go_wp2
              refine wp_region_bw (by kernel_rfl) (by kernel_rfl) ?_
              repeat (go_big_quiet_step (rfl))
              refine wpQuiet_nil ?_
              rintro _ ⟨d7, rfl⟩
              have HB7 := Lib.hid (HBD.out d7)
              clear d1 d2 d3 d4 d5 d6 HBD r1 hBj
              generalize d7.w = we at *
              by_cases hxy : x1 = y1 ∧ x2 = y2
              · have q4 : (!x1 == y1 || !x2 == y2) = false := by simp [hxy.1, hxy.2]
                have HE3 : Hid (u.take (j + 1) = v.take (j + 1)) := by unfold Hid; rw [HTJ.out, HTJ2.out, hEj.out, hxy.1, hxy.2]
                clear hxy
                generalize (!x1 == y1 || !x2 == y2) = bq at q4 ⊢
                subst q4
                go_wp2
                exact ⟨⟨j + 1, by omega, int_eq (by omega), HE3, HB7⟩, by simp [intOf]; omega⟩
              · have q4 : (!x1 == y1 || !x2 == y2) = true := by
                  by_cases e1 : x1 = y1
                  · have e2 : ¬ x2 = y2 := fun h => hxy ⟨e1, h⟩
                    simp [e2]
                  · simp [e1]
                have HF : Hid (¬ s = t) := fun H => hxy (by have := HNJ.out (HNE.out H); exact ⟨(Prod.mk.inj this).1, (Prod.mk.inj this).2⟩)
                clear hxy
                generalize (!x1 == y1 || !x2 == y2) = bq at q4 ⊢
                subst q4
                go_wp2
                go_ret
                exact ⟨⟨false, rfl, ⟨fun h => (by cases h), fun H => (HF.out H).elim⟩⟩, HB7.out⟩
            · have g2 : ¬ (j : Int) < (ul : Int) := by omega
              obtain rfl : ul = j := by omega
              have HEU : Hid (u = v) := by
                have := hEj.out
                rw [List.take_of_length_le (by rw [hul.out]; exact Nat.le_refl _), List.take_of_length_le (by rw [hvl.out]; omega)] at this
                exact this
              have HE2 : Hid (s.take (i + 1) = t.take (i + 1)) := by unfold Hid; rw [HTK.out, HTK2.out, hE.out, HEU.out]
              go_wp2
              exact ⟨⟨i + 1, by omega, int_eq (by omega), HE2, hBj⟩, by simp [intOf]; omega⟩
        · have q3 : ((ul : Int) != (vl : Int)) = true := by simp; omega
          have HF : Hid (¬ s = t) := fun H => huv (by have := HNE.out H; rw [← hul.out, ← hvl.out, this])
          go_wp2
          go_ret
          exact ⟨⟨false, rfl, ⟨fun h => (by cases h), fun H => (HF.out H).elim⟩⟩, HB2.out⟩
      · have g1 : ¬ (i : Int) < (ls : Int) := by omega
        obtain rfl : ls = i := by omega
        have HE2 : Hid (s = t) := by
          have := hE.out
          rw [List.take_of_length_le (by rw [HLS.out]; exact Nat.le_refl _), List.take_of_length_le (by rw [HLT.out]; omega)] at this
          exact this
        go_wp2
        go_ret
        exact ⟨⟨true, rfl, ⟨fun _ => HE2.out, fun _ => rfl⟩⟩, hB.out⟩
  · have q1 : ((ls : Int) != (lt : Int)) = true := by simp; omega
    have HF : Hid (¬ s = t) := fun H => hst (by rw [← HLS.out, ← HLT.out, H])
    go_wp2
    go_ret
    exact ⟨⟨false, rfl, ⟨fun h => (by cases h), fun H => (HF.out H).elim⟩⟩, Below.refl _ _⟩
end Go.Proofs.Ytocnhikohfkcaaa
namespace Go.Proofs.Ytocnhikohfkcaaa
open Go.RowKit Go.Shelf
attribute [local go_sem] Oper.semAt_some

set_option maxRecDepth 100000 in
set_option maxHeartbeats 4000000 in
theorem RCircle_ok (n : Nat) (w : World) (h2 : 2 ≤ n) (h16 : n ≤ 16) (hev : n % 2 = 0) :
    Calls Try.prog 14 #[.int .i64 (n : Int)] w fun e w' => ∃ v, e = .returned v ∧ SchR w' w.heap.size v (n - 1) (n / 2) (cir n) ∧ Below w.heap.size w w' := by
  obtain ⟨i0, hi0, hz0, hz1, hz2⟩ := info_parts infoP
  obtain ⟨i1, hi1, hy0, hy1, hy2⟩ := info_parts infoR
  obtain ⟨h, hh⟩ : ∃ h, Hid (n / 2 = h) := ⟨_, rfl⟩
  have hdiv : Int.tdiv (n : Int) 2 = (h : Int) := by have := hh.out; rw [Int.tdiv_eq_ediv_of_nonneg (by omega)]; omega
  have HN2 : Hid (n = 2 * h) := by have := hh.out; unfold Hid; omega
  rw [hh.out]
  obtain ⟨n1, hn1⟩ : ∃ n1, Hid (n - 1 = n1) := ⟨_, rfl⟩
  have HN1 : Hid (n = n1 + 1) := by have := hn1.out; unfold Hid; omega
  have hsub : (n : Int) - 1 = (n1 : Int) := by have := hn1.out; omega
  have hn16 : n1 ≤ 15 := by have := hn1.out; omega
  have hh8 : h ≤ 8 := by have := HN2.out; omega
  clear hev
  rw [hn1.out]
  go_enter Try.func14, Try.ntmps14
  go_upto_region 3 with (fail)
  go_loopw [3, 4] (fun s4 s16 wr => ∃ r : Nat, r ≤ n1 ∧ s16 = .int .i64 (r : Int) ∧ Hid (SchR wr w.heap.size s4 r h (cir n)) ∧ Hid (Below w.heap.size w wr)) (fun _ s16 _ => n1 - (intOf s16).toNat)
  case atStart => exact ⟨0, by omega, rfl, SchR.nil _ _ _ _, Below.refl _ _⟩
  case round =>
    obtain ⟨r, hr, rfl, hS, hB⟩ := hrel
    obtain ⟨p4, c4, rfl⟩ := hS.out.isSlice
    by_cases hrn : r < n1
    · have g1 : (r : Int) < (n1 : Int) := by omega
      have g0 : (0 : Int) ≤ (r : Int) := by omega
      obtain ⟨wo, hwo⟩ : ∃ wo, Hid (wo = wr) := ⟨_, rfl⟩
      rw [← hwo.out] at hS hB ⊢
      clear hwo
      by_cases hodd : r % 2 = 1
      · have hrem : Int.tmod (r : Int) 2 = 1 := by rw [Int.tmod_eq_emod_of_nonneg (by omega)]; omega
        go_upto_region 10 with (fail)
        have HQ0 := Lib.hid (qrow_new2 (wo.alloc (.cells #[.int .i64 (r : Int), .int .i64 (n1 : Int)] 58)) 58 (.int .i64 (r : Int)) (.int .i64 (n1 : Int)) (base := wo.heap.size) (by simp))
        have HBX : Hid (Below wo.heap.size wo ((wo.alloc (.cells #[.int .i64 (r : Int), .int .i64 (n1 : Int)] 58)).alloc (.cells #[.int .i64 (r : Int), .int .i64 (n1 : Int)] 58))) := ((Below.refl _ _).alloc (Nat.le_refl _) _).alloc (by simp) _
        have HSZ : Hid ((wo.alloc (.cells #[.int .i64 (r : Int), .int .i64 (n1 : Int)] 58)).heap.size = wo.heap.size + 1) := by unfold Hid; simp
        rw [HSZ.out] at HQ0
        generalize ((wo.alloc (.cells #[.int .i64 (r : Int), .int .i64 (n1 : Int)] 58)).alloc (.cells #[.int .i64 (r : Int), .int .i64 (n1 : Int)] 58)) = X at *
        clear HSZ
        have HQ1 : Hid (QRow X wo.heap.size 58 2 (.slice (some ⟨wo.heap.size + 1, 0, none⟩) 1 1) 1 (pairCells (rowL (cir n) r 1))) := by
          rw [show rowL (cir n) r 1 = [(((r : Nat) : Int), ((n1 : Nat) : Int))] by unfold rowL; rw [show List.range 1 = [0] from rfl]; simp only [List.map_cons, List.map_nil]; rw [cir_0 hodd, hn1.out]]
          exact HQ0.out
        clear HQ0
        go_loopw [6, 7] (fun s7 s8 wr => ∃ k : Nat, 1 ≤ k ∧ k ≤ h ∧ s8 = .int .i64 (k : Int) ∧ Hid (QRow wr wo.heap.size 58 2 s7 k (pairCells (rowL (cir n) r k))) ∧ Hid (Below wo.heap.size wo wr)) (fun _ s8 _ => h - (intOf s8).toNat)
        case atStart => exact ⟨1, by omega, by have := HN2.out; omega, rfl, HQ1, HBX⟩
        case round =>
          clear HQ1 HBX hrem
          obtain ⟨k, hk1, hk, rfl, hQ, hBo⟩ := hrel
          obtain ⟨p7, c7, rfl⟩ := hQ.out.isSlice
          have hwo : wo.heap.size ≤ wr.heap.size := hBo.out.size
          by_cases hkh : k < h
          · have g2 : (k : Int) < (h : Int) := by omega
            have HE1 : Hid (Int.tmod ((r : Int) + (k : Int)) (n1 : Int) = (((r + k) % n1 : Nat) : Int)) := by unfold Hid; rw [Int.tmod_eq_emod_of_nonneg (by omega)]; rfl
            have HE2 : Hid (Int.tmod ((r : Int) - (k : Int) + (n : Int) - 1) (n1 : Int) = (((r + n1 - k) % n1 : Nat) : Int)) := by
              have h1 := HN1.out
              have h2 := HN2.out
              unfold Hid
              rw [show (r : Int) - (k : Int) + (n : Int) - 1 = ((r + n1 - k : Nat) : Int) by omega, Int.tmod_eq_emod_of_nonneg (by omega)]; rfl
            have e1 := HE1.out
            have e2 := HE2.out
            have HCE : Hid (k % 2 = 0 → cir n r k = ((r + n1 - k) % n1, (r + k) % n1)) := fun h => by rw [cir_e (by omega) h, hn1.out]
            have HCO : Hid (¬ k % 2 = 0 → cir n r k = ((r + k) % n1, (r + n1 - k) % n1)) := fun h => by rw [cir_o (by omega) h, hn1.out]
            have ha : (r + k) % n1 < n1 := Nat.mod_lt _ (by omega)
            have hb : (r + n1 - k) % n1 < n1 := Nat.mod_lt _ (by omega)
            have hn0 : ((n1 : Int) == 0) = false := by rw [beq_eq_false_iff_ne]; omega
            have hn0' : (n1 : Int) ≠ 0 := by omega
            generalize (r + k) % n1 = a at *
            generalize (r + n1 - k) % n1 = b at *
            clear HE1 HE2
            go_wp2
            go_quiet (fail)
            have hQ' : Hid (QRow (wr.drewN nq) wo.heap.size 58 2 (.slice p7 k c7) k (pairCells (rowL (cir n) r k))) := hQ.out
            have hBo' := Lib.hid (below_dr hBo.out nq)
            clear hQ hBo hwo
            have hQ := hQ'
            have hBo := hBo'
            clear hQ' hBo'
            generalize wr.drewN nq = wA at *
            have hwo : wo.heap.size ≤ wA.heap.size := hBo.out.size
            clear e1 e2
            have HLT := Lib.hid (fun kk (e : _ = some kk) => (hQ.out.lt kk e).1)
            by_cases hev : k % 2 = 0
            · have hrem : Int.tmod (k : Int) 2 = 0 := by rw [Int.tmod_eq_emod_of_nonneg (by omega)]; omega
              have HSN : Hid (pairCells (rowL (cir n) r (k + 1)) = pairCells (rowL (cir n) r k) ++ [.int .i64 (b : Int), .int .i64 (a : Int)]) := by rw [cells_snoc2, HCE.out hev]; rfl
              have HQA := Lib.hid (hQ.out.alloc (.cells #[.int .i64 (b : Int), .int .i64 (a : Int)] 58))
              clear HCE HCO hev
              go_wp2_with (at_builtin; go_must (refine wpList_append_q _ rfl (.tmp 59) (.tmp 63) 59 rfl wo.heap.size 58 i0 _ 2 16 underR hi0 hz0 hz1 hz2 rfl (by decide) _ k (pairCells (rowL (cir n) r k)) rfl HQA.out ⟨wA.heap.size, 0, none⟩ 1 1 [.int .i64 (b : Int), .int .i64 (a : Int)] rfl rfl (cells_newB _ _ _ _) (by simp [Value.oneCell']) (by unfold maxLen; omega) (by omega) (by simp; omega) ?_); intro v7 w7 hq7 hg7 ho7; have HQ7 : Hid (QRow w7 wo.heap.size 58 2 v7 (k + 1) (pairCells (rowL (cir n) r (k + 1)))) := (by rw [HSN.out]; exact hq7); have HB7 : Hid (Below wo.heap.size wo w7) := Below.grown (hBo.out.alloc hwo _) hg7 (by simp; omega) (fun kk e => HLT.out kk e); clear hq7 hg7 ho7)
              exact ⟨⟨k + 1, by omega, by omega, int_eq (by omega), HQ7, HB7⟩, by simp [intOf]; omega⟩
            · have hrem : Int.tmod (k : Int) 2 = 1 := by rw [Int.tmod_eq_emod_of_nonneg (by omega)]; omega
              have HSN : Hid (pairCells (rowL (cir n) r (k + 1)) = pairCells (rowL (cir n) r k) ++ [.int .i64 (a : Int), .int .i64 (b : Int)]) := by rw [cells_snoc2, HCO.out hev]; rfl
              have HQA := Lib.hid (hQ.out.alloc (.cells #[.int .i64 (a : Int), .int .i64 (b : Int)] 58))
              clear HCE HCO hev
              go_wp2_with (at_builtin; go_must (refine wpList_append_q _ rfl (.tmp 53) (.tmp 57) 59 rfl wo.heap.size 58 i0 _ 2 16 underR hi0 hz0 hz1 hz2 rfl (by decide) _ k (pairCells (rowL (cir n) r k)) rfl HQA.out ⟨wA.heap.size, 0, none⟩ 1 1 [.int .i64 (a : Int), .int .i64 (b : Int)] rfl rfl (cells_newB _ _ _ _) (by simp [Value.oneCell']) (by unfold maxLen; omega) (by omega) (by simp; omega) ?_); intro v7 w7 hq7 hg7 ho7; have HQ7 : Hid (QRow w7 wo.heap.size 58 2 v7 (k + 1) (pairCells (rowL (cir n) r (k + 1)))) := (by rw [HSN.out]; exact hq7); have HB7 : Hid (Below wo.heap.size wo w7) := Below.grown (hBo.out.alloc hwo _) hg7 (by simp; omega) (fun kk e => HLT.out kk e); clear hq7 hg7 ho7)
              exact ⟨⟨k + 1, by omega, by omega, int_eq (by omega), HQ7, HB7⟩, by simp [intOf]; omega⟩
          · have g2 : ¬ (k : Int) < (h : Int) := by omega
            obtain rfl : h = k := by omega
            clear g2 hkh hk hk1
            obtain ⟨xs, h1o, h2o, h5o⟩ := hS.out
            have HBW := Lib.hid (hB.out.trans (hBo.out.mono hB.out.size))
            have hww : w.heap.size ≤ wr.heap.size := HBW.out.size
            have h1 := h1o.below hBo.out (fun k' hk' => (h1o.lt k' hk').2)
            have HDD := Lib.hid h5o
            have HNN : Hid (∀ r' x b, r' < r → xs[r']? = some x → x.ownBlock = some b → (Value.slice p7 h c7).ownBlock ≠ some b) := fun r' x b hr' hx hb e => by
              obtain ⟨p, c, e1, e2⟩ := h2o r' hr'
              rw [hx] at e1
              cases e1
              have h6 := (e2.lt b hb).2
              have h7 := (hQ.out.lt b e).1
              omega
            have H1A := Lib.hid (h1.alloc (.cells #[.slice p7 h c7] 59))
            have H2A : Hid (∀ r', r' < r → ∃ p c, xs[r']? = some (.slice p h c) ∧ QRow (wr.alloc (.cells #[.slice p7 h c7] 59)) w.heap.size 58 2 (.slice p h c) h (pairCells (rowL (cir n) r' h))) := fun r' hr' => by
              obtain ⟨p, c, e1, e2⟩ := h2o r' hr'
              exact ⟨p, c, e1, (e2.below hBo.out (fun k' hk' => (e2.lt k' hk').2)).alloc _⟩
            have HQA := Lib.hid ((hQ.out.mono hB.out.size).alloc (.cells #[.slice p7 h c7] 59))
            have HLT := Lib.hid (fun kk (e : _ = some kk) => (h1.lt kk e).1)
            clear h1 h1o h2o h5o
            go_wp2_with (at_builtin; go_must (refine wpList_append_q _ rfl (.tmp 65) (.tmp 67) 22 rfl w.heap.size 59 i1 (.slice none 0 0) 1 24 underS hi1 hy0 hy1 hy2 rfl (by decide) _ r xs rfl H1A.out ⟨_, 0, none⟩ 1 1 [.slice p7 h c7] rfl rfl (cells_new1 _ _ _) (by simp [Value.oneCell']) (by unfold maxLen; omega) (by omega) (by simp; omega) ?_); intro v5 w5 hq5 hg5 ho5; have HR5 : Hid (SchR w5 w.heap.size v5 (r + 1) h (cir n)) := SchR.push H2A.out H1A.out HQA.out hg5 hq5 HDD.out HNN.out; have HB5 : Hid (Below w.heap.size w w5) := Below.grown (HBW.out.alloc hww _) hg5 (by simp; omega) (fun kk e => HLT.out kk e); clear hq5 hg5 ho5)
            exact ⟨⟨r + 1, by omega, int_eq (by omega), HR5, HB5⟩, by simp [intOf]; omega⟩
      · have hrem : Int.tmod (r : Int) 2 = 0 := by rw [Int.tmod_eq_emod_of_nonneg (by omega)]; omega
        go_upto_region 10 with (fail)
        have HQ0 := Lib.hid (qrow_new2 (wo.alloc (.cells #[.int .i64 (n1 : Int), .int .i64 (r : Int)] 58)) 58 (.int .i64 (n1 : Int)) (.int .i64 (r : Int)) (base := wo.heap.size) (by simp))
        have HBX : Hid (Below wo.heap.size wo ((wo.alloc (.cells #[.int .i64 (n1 : Int), .int .i64 (r : Int)] 58)).alloc (.cells #[.int .i64 (n1 : Int), .int .i64 (r : Int)] 58))) := ((Below.refl _ _).alloc (Nat.le_refl _) _).alloc (by simp) _
        have HSZ : Hid ((wo.alloc (.cells #[.int .i64 (n1 : Int), .int .i64 (r : Int)] 58)).heap.size = wo.heap.size + 1) := by unfold Hid; simp
        rw [HSZ.out] at HQ0
        generalize ((wo.alloc (.cells #[.int .i64 (n1 : Int), .int .i64 (r : Int)] 58)).alloc (.cells #[.int .i64 (n1 : Int), .int .i64 (r : Int)] 58)) = X at *
        clear HSZ
        have HQ1 : Hid (QRow X wo.heap.size 58 2 (.slice (some ⟨wo.heap.size + 1, 0, none⟩) 1 1) 1 (pairCells (rowL (cir n) r 1))) := by
          rw [show rowL (cir n) r 1 = [(((n1 : Nat) : Int), ((r : Nat) : Int))] by unfold rowL; rw [show List.range 1 = [0] from rfl]; simp only [List.map_cons, List.map_nil]; rw [cir_0' hodd, hn1.out]]
          exact HQ0.out
        clear HQ0
        go_loopw [6, 7] (fun s7 s8 wr => ∃ k : Nat, 1 ≤ k ∧ k ≤ h ∧ s8 = .int .i64 (k : Int) ∧ Hid (QRow wr wo.heap.size 58 2 s7 k (pairCells (rowL (cir n) r k))) ∧ Hid (Below wo.heap.size wo wr)) (fun _ s8 _ => h - (intOf s8).toNat)
        case atStart => exact ⟨1, by omega, by have := HN2.out; omega, rfl, HQ1, HBX⟩
        case round =>
          clear HQ1 HBX hrem
          obtain ⟨k, hk1, hk, rfl, hQ, hBo⟩ := hrel
          obtain ⟨p7, c7, rfl⟩ := hQ.out.isSlice
          have hwo : wo.heap.size ≤ wr.heap.size := hBo.out.size
          by_cases hkh : k < h
          · have g2 : (k : Int) < (h : Int) := by omega
            have HE1 : Hid (Int.tmod ((r : Int) + (k : Int)) (n1 : Int) = (((r + k) % n1 : Nat) : Int)) := by unfold Hid; rw [Int.tmod_eq_emod_of_nonneg (by omega)]; rfl
            have HE2 : Hid (Int.tmod ((r : Int) - (k : Int) + (n : Int) - 1) (n1 : Int) = (((r + n1 - k) % n1 : Nat) : Int)) := by
              have h1 := HN1.out
              have h2 := HN2.out
              unfold Hid
              rw [show (r : Int) - (k : Int) + (n : Int) - 1 = ((r + n1 - k : Nat) : Int) by omega, Int.tmod_eq_emod_of_nonneg (by omega)]; rfl
            have e1 := HE1.out
            have e2 := HE2.out
            have HCE : Hid (k % 2 = 0 → cir n r k = ((r + n1 - k) % n1, (r + k) % n1)) := fun h => by rw [cir_e (by omega) h, hn1.out]
            have HCO : Hid (¬ k % 2 = 0 → cir n r k = ((r + k) % n1, (r + n1 - k) % n1)) := fun h => by rw [cir_o (by omega) h, hn1.out]
            have ha : (r + k) % n1 < n1 := Nat.mod_lt _ (by omega)
            have hb : (r + n1 - k) % n1 < n1 := Nat.mod_lt _ (by omega)
            have hn0 : ((n1 : Int) == 0) = false := by rw [beq_eq_false_iff_ne]; omega
            have hn0' : (n1 : Int) ≠ 0 := by omega
            generalize (r + k) % n1 = a at *
            generalize (r + n1 - k) % n1 = b at *
            clear HE1 HE2
            go_wp2
            go_quiet (fail)
            have hQ' : Hid (QRow (wr.drewN nq) wo.heap.size 58 2 (.slice p7 k c7) k (pairCells (rowL (cir n) r k))) := hQ.out
            have hBo' := Lib.hid (below_dr hBo.out nq)
            clear hQ hBo hwo
            have hQ := hQ'
            have hBo := hBo'
            clear hQ' hBo'
            generalize wr.drewN nq = wA at *
            have hwo : wo.heap.size ≤ wA.heap.size := hBo.out.size
            clear e1 e2
            have HLT := Lib.hid (fun kk (e : _ = some kk) => (hQ.out.lt kk e).1)
            by_cases hev : k % 2 = 0
            · have hrem : Int.tmod (k : Int) 2 = 0 := by rw [Int.tmod_eq_emod_of_nonneg (by omega)]; omega
              have HSN : Hid (pairCells (rowL (cir n) r (k + 1)) = pairCells (rowL (cir n) r k) ++ [.int .i64 (b : Int), .int .i64 (a : Int)]) := by rw [cells_snoc2, HCE.out hev]; rfl
              have HQA := Lib.hid (hQ.out.alloc (.cells #[.int .i64 (b : Int), .int .i64 (a : Int)] 58))
              clear HCE HCO hev
              go_wp2_with (at_builtin; go_must (refine wpList_append_q _ rfl (.tmp 59) (.tmp 63) 59 rfl wo.heap.size 58 i0 _ 2 16 underR hi0 hz0 hz1 hz2 rfl (by decide) _ k (pairCells (rowL (cir n) r k)) rfl HQA.out ⟨wA.heap.size, 0, none⟩ 1 1 [.int .i64 (b : Int), .int .i64 (a : Int)] rfl rfl (cells_newB _ _ _ _) (by simp [Value.oneCell']) (by unfold maxLen; omega) (by omega) (by simp; omega) ?_); intro v7 w7 hq7 hg7 ho7; have HQ7 : Hid (QRow w7 wo.heap.size 58 2 v7 (k + 1) (pairCells (rowL (cir n) r (k + 1)))) := (by rw [HSN.out]; exact hq7); have HB7 : Hid (Below wo.heap.size wo w7) := Below.grown (hBo.out.alloc hwo _) hg7 (by simp; omega) (fun kk e => HLT.out kk e); clear hq7 hg7 ho7)
              exact ⟨⟨k + 1, by omega, by omega, int_eq (by omega), HQ7, HB7⟩, by simp [intOf]; omega⟩
            · have hrem : Int.tmod (k : Int) 2 = 1 := by rw [Int.tmod_eq_emod_of_nonneg (by omega)]; omega
              have HSN : Hid (pairCells (rowL (cir n) r (k + 1)) = pairCells (rowL (cir n) r k) ++ [.int .i64 (a : Int), .int .i64 (b : Int)]) := by rw [cells_snoc2, HCO.out hev]; rfl
              have HQA := Lib.hid (hQ.out.alloc (.cells #[.int .i64 (a : Int), .int .i64 (b : Int)] 58))
              clear HCE HCO hev
              go_wp2_with (at_builtin; go_must (refine wpList_append_q _ rfl (.tmp 53) (.tmp 57) 59 rfl wo.heap.size 58 i0 _ 2 16 underR hi0 hz0 hz1 hz2 rfl (by decide) _ k (pairCells (rowL (cir n) r k)) rfl HQA.out ⟨wA.heap.size, 0, none⟩ 1 1 [.int .i64 (a : Int), .int .i64 (b : Int)] rfl rfl (cells_newB _ _ _ _) (by simp [Value.oneCell']) (by unfold maxLen; omega) (by omega) (by simp; omega) ?_); intro v7 w7 hq7 hg7 ho7; have HQ7 : Hid (QRow w7 wo.heap.size 58 2 v7 (k + 1) (pairCells (rowL (cir n) r (k + 1)))) := (by rw [HSN.out]; exact hq7); have HB7 : Hid (Below wo.heap.size wo w7) := Below.grown (hBo.out.alloc hwo _) hg7 (by simp; omega) (fun kk e => HLT.out kk e); clear hq7 hg7 ho7)
              exact ⟨⟨k + 1, by omega, by omega, int_eq (by omega), HQ7, HB7⟩, by simp [intOf]; omega⟩
          · have g2 : ¬ (k : Int) < (h : Int) := by omega
            obtain rfl : h = k := by omega
            clear g2 hkh hk hk1
            obtain ⟨xs, h1o, h2o, h5o⟩ := hS.out
            have HBW := Lib.hid (hB.out.trans (hBo.out.mono hB.out.size))
            have hww : w.heap.size ≤ wr.heap.size := HBW.out.size
            have h1 := h1o.below hBo.out (fun k' hk' => (h1o.lt k' hk').2)
            have HDD := Lib.hid h5o
            have HNN : Hid (∀ r' x b, r' < r → xs[r']? = some x → x.ownBlock = some b → (Value.slice p7 h c7).ownBlock ≠ some b) := fun r' x b hr' hx hb e => by
              obtain ⟨p, c, e1, e2⟩ := h2o r' hr'
              rw [hx] at e1
              cases e1
              have h6 := (e2.lt b hb).2
              have h7 := (hQ.out.lt b e).1
              omega
            have H1A := Lib.hid (h1.alloc (.cells #[.slice p7 h c7] 59))
            have H2A : Hid (∀ r', r' < r → ∃ p c, xs[r']? = some (.slice p h c) ∧ QRow (wr.alloc (.cells #[.slice p7 h c7] 59)) w.heap.size 58 2 (.slice p h c) h (pairCells (rowL (cir n) r' h))) := fun r' hr' => by
              obtain ⟨p, c, e1, e2⟩ := h2o r' hr'
              exact ⟨p, c, e1, (e2.below hBo.out (fun k' hk' => (e2.lt k' hk').2)).alloc _⟩
            have HQA := Lib.hid ((hQ.out.mono hB.out.size).alloc (.cells #[.slice p7 h c7] 59))
            have HLT := Lib.hid (fun kk (e : _ = some kk) => (h1.lt kk e).1)
            clear h1 h1o h2o h5o
            go_wp2_with (at_builtin; go_must (refine wpList_append_q _ rfl (.tmp 65) (.tmp 67) 22 rfl w.heap.size 59 i1 (.slice none 0 0) 1 24 underS hi1 hy0 hy1 hy2 rfl (by decide) _ r xs rfl H1A.out ⟨_, 0, none⟩ 1 1 [.slice p7 h c7] rfl rfl (cells_new1 _ _ _) (by simp [Value.oneCell']) (by unfold maxLen; omega) (by omega) (by simp; omega) ?_); intro v5 w5 hq5 hg5 ho5; have HR5 : Hid (SchR w5 w.heap.size v5 (r + 1) h (cir n)) := SchR.push H2A.out H1A.out HQA.out hg5 hq5 HDD.out HNN.out; have HB5 : Hid (Below w.heap.size w w5) := Below.grown (HBW.out.alloc hww _) hg5 (by simp; omega) (fun kk e => HLT.out kk e); clear hq5 hg5 ho5)
            exact ⟨⟨r + 1, by omega, int_eq (by omega), HR5, HB5⟩, by simp [intOf]; omega⟩
    · have g1 : ¬ (r : Int) < (n1 : Int) := by omega
      obtain rfl : n1 = r := by omega
      go_wp2
      go_ret
      exact ⟨_, rfl, hS.out, hB.out⟩
end Go.Proofs.Ytocnhikohfkcaaa
namespace Go.Proofs.Ytocnhikohfkcaaa
open Go.RowKit Go.Shelf
attribute [local go_sem] Oper.semAt_some

theorem RowB.kept {W W' : World} {row : Option Nat} {B n : Nat} {f : Nat → Int} (h : RowB W B n f) (hg : W.grownBy W' row) (hne : some B ≠ row) : RowB W' B n f := by
  obtain ⟨vs, h1, h2⟩ := h
  exact ⟨vs, h1.kept hg hne, h2⟩
/-- k rows of n integers that the call has made, each its own -/
structure TabI (W : World) (base : Nat) (v : Value) (k n : Nat) (rb : Nat → Nat) (R : Nat → Nat → Int) : Prop where
  q : QRow W base 43 1 v k ((List.range k).map fun i => .slice (some ⟨rb i, 0, none⟩) n n)
  rows : ∀ i, i < k → RowB W (rb i) n (R i)
  inj : ∀ i j, i < j → j < k → rb i ≠ rb j
  low : ∀ i, i < k → base ≤ rb i
theorem TabI.ne {W : World} {base : Nat} {v : Value} {k n : Nat} {rb : Nat → Nat} {R : Nat → Nat → Int} (h : TabI W base v k n rb R) {i : Nat} (hi : i < k) : v.ownBlock ≠ some (rb i) := fun hv => by
  rcases h.q.2 with ⟨rfl, _⟩ | ⟨g, o, cap, cur, rfl, _, hg, _⟩
  · cases hv
  · cases hv
    obtain ⟨vs, h1, _⟩ := h.rows i hi
    rw [show W.heap[rb i]? = _ from h1] at hg
    cases hg
theorem TabI.at {W : World} {base : Nat} {v : Value} {k n : Nat} {rb : Nat → Nat} {R : Nat → Nat → Int} (h : TabI W base v k n rb R) (hk : 0 < k) : ∃ g o c, v = .slice (some ⟨g, o, none⟩) k c ∧ base ≤ g ∧ g < W.heap.size ∧ (∀ i, i < k → W.cell? ⟨g, o + i, none⟩ = some (.slice (some ⟨rb i, 0, none⟩) n n)) ∧ ∀ i, i < k → g ≠ rb i := by
  obtain ⟨g, o, c, e, h1, h2, _, _, h3, _⟩ := h.q.at (by omega)
  refine ⟨g, o, c, e, h1, h2, fun i hi => ?_, fun i hi e2 => h.ne hi (by rw [e, e2]; rfl)⟩
  rw [h3 i (by omega), List.getElem?_map, List.getElem?_range hi]; rfl
theorem TabI.hdr {W : World} {base g o c : Nat} {k n : Nat} {rb : Nat → Nat} {R : Nat → Nat → Int} (h : TabI W base (.slice (some ⟨g, o, none⟩) k c) k n rb R) {i : Nat} (hi : i < k) : W.cell? ⟨g, o + i, none⟩ = some (.slice (some ⟨rb i, 0, none⟩) n n) := by
  obtain ⟨g', o', c', e, _, _, h3, _⟩ := h.at (by omega)
  cases e
  exact h3 i hi
theorem TabI.set {W : World} {base : Nat} {v : Value} {k n : Nat} {rb : Nat → Nat} {R : Nat → Nat → Int} (h : TabI W base v k n rb R) {a b : Nat} (ha : a < k) (hb : b < n) (z : Int) : TabI (W.setCell ⟨rb a, b, none⟩ (.int .i64 z)) base v k n rb (fun i j => if i = a ∧ j = b then z else R i j) where
  q := h.q.other (fun kk e h2 => h.ne ha (by rw [e, h2])) _
  rows := fun i hi => by
    by_cases e : i = a
    · subst e
      refine ((h.rows i hi).set hb z).congr fun j hj => ?_
      by_cases e2 : j = b
      · simp [e2]
      · simp [e2]
    · refine ((h.rows i hi).other (a := ⟨rb a, b, none⟩) (fun e2 => ?_) _).congr fun j hj => by simp [e]
      rcases Nat.lt_or_gt_of_ne e with h3 | h3
      · exact h.inj i a h3 ha e2
      · exact h.inj a i h3 hi e2.symm
  inj := h.inj
  low := h.low
theorem TabI.congr {W : World} {base : Nat} {v : Value} {k n : Nat} {rb : Nat → Nat} {R S : Nat → Nat → Int} (h : TabI W base v k n rb R) (e : ∀ i j, i < k → j < n → R i j = S i j) : TabI W base v k n rb S :=
  ⟨h.q, fun i hi => (h.rows i hi).congr fun j hj => e i j hi hj, h.inj, h.low⟩
theorem TabI.below {W W' : World} {base B : Nat} {v : Value} {k n : Nat} {rb : Nat → Nat} {R : Nat → Nat → Int} (h : TabI W base v k n rb R) (hB : Below B W W') (hb : W.heap.size ≤ B) : TabI W' base v k n rb R :=
  ⟨h.q.below hB (fun kk e => Nat.lt_of_lt_of_le (h.q.lt kk e).2 hb), fun i hi => (h.rows i hi).below hB (Nat.lt_of_lt_of_le (h.rows i hi).lt hb), h.inj, h.low⟩
theorem TabI.nil (W : World) (base n : Nat) (rb : Nat → Nat) (R : Nat → Nat → Int) : TabI W base (.slice none 0 0) 0 n rb R := ⟨QRow.nil _ _ _ _, fun i hi => by omega, fun i j _ hj => by omega, fun i hi => by omega⟩
theorem TabI.push {W W' : World} {base n i : Nat} {v v' : Value} {rb : Nat → Nat} {vs : Array Value} {o : Obj} (h : TabI W base v i n rb (fun _ _ => 0)) (hb : base ≤ W.heap.size) (hv : vs.size = n ∧ ∀ j, j < n → vs[j]? = some (.int .i64 0))
    (hg : ((W.alloc (.cells vs 3)).alloc o).grownBy W' v.ownBlock) (hq : QRow W' base 43 1 v' (i + 1) ((List.range i).map (fun i => .slice (some ⟨rb i, 0, none⟩) n n) ++ [.slice (some ⟨W.heap.size, 0, none⟩) n n])) :
    TabI W' base v' (i + 1) n (fun j => if j = i then W.heap.size else rb j) (fun _ _ => 0) where
  q := by
    rw [List.range_succ, List.map_append]
    have e1 : (List.range i).map (fun j => Value.slice (some ⟨if j = i then W.heap.size else rb j, 0, none⟩) n n) = (List.range i).map (fun i => Value.slice (some ⟨rb i, 0, none⟩) n n) := by
      apply List.map_congr_left
      intro j hj
      rw [if_neg (by have := List.mem_range.1 hj; omega)]
    rw [e1]
    simpa using hq
  rows := fun j hj => by
    by_cases e : j = i
    · subst e
      simp only [if_true]
      have h1 : RowB (W.alloc (.cells vs 3)) W.heap.size n (fun _ => 0) := ⟨vs, BoxN.new rfl, hv.1, hv.2⟩
      exact (h1.kept (World.grownBy_alloc _ o none) (by simp)).kept hg (fun e => by have := (h.q.lt _ e.symm).2; omega)
    · simp only [if_neg e]
      have h1 := h.rows j (by omega)
      exact ((h1.kept (World.grownBy_alloc _ (.cells vs 3) none) (by simp)).kept (World.grownBy_alloc _ o none) (by simp)).kept hg (fun e2 => h.ne (by omega) e2.symm)
  inj := fun a b hab hb2 => by
    have ha := (h.rows a (by omega)).lt
    by_cases e : b = i
    · rw [if_pos e, if_neg (by omega)]; omega
    · rw [if_neg e, if_neg (by omega)]; exact h.inj a b hab (by omega)
  low := fun j hj => by
    by_cases e : j = i
    · rw [if_pos e]; exact hb
    · rw [if_neg e]; exact h.low j (by omega)
theorem make_ints (n : Nat) (hn : n ≤ 20) : ∃ vs : Array Value, vs.size = n ∧ (∀ j, j < n → vs[j]? = some (.int .i64 0)) ∧
    ∀ W, Sem.run Try.prog (Instr.makeSlice 43 (.int .i64 (n : Int)) (.int .i64 (n : Int))) W = .ok (.slice (some ⟨W.heap.size, 0, none⟩) n n) (W.alloc (.cells vs 3)) := by
  have info : (Try.prog.info? 3).map (fun i => (i.zero, i.size, i.bytes)) = some (some (.int .i64 0), 1, 8) := by kernel_rfl
  have under : Try.prog.underlying 43 = some (.slice 3) := by kernel_rfl
  obtain ⟨i0, hi, hz0, hz1, hz2⟩ := info_parts info
  refine ⟨madeCells #[.int .i64 0] n, size_madeCells _ _, fun j hj => ?_, fun W => ?_⟩
  · rw [← Array.getElem?_toList, toList_madeCells_one, List.getElem?_replicate, if_pos hj]
  · have := run_make (P := Try.prog) W 43 3 i0 _ under hi hz0 .i64 .i64 (n : Int) (n : Int) (by omega) (Int.le_refl _) (by rw [hz2]; omega) (by omega)
    rw [hz1, show (Value.int .i64 0).cells = #[.int .i64 0] from rfl] at this
    simpa using this
/-- whom x meets in a round -/
def meetZ (x : Int) : List I2 → Int
  | [] => 0
  | p :: d => if p.1 = x then p.2 else if p.2 = x then p.1 else meetZ x d
theorem meetZ_rng {n : Nat} (hn : 1 ≤ n) {d : List I2} (h : ∀ p ∈ d, (0 ≤ p.1 ∧ p.1 < (n : Int)) ∧ (0 ≤ p.2 ∧ p.2 < (n : Int)) ∧ p.1 ≠ p.2) (x : Int) : 0 ≤ meetZ x d ∧ meetZ x d < (n : Int) := by
  induction d with
  | nil => exact ⟨by simp [meetZ], by simp [meetZ]; omega⟩
  | cons p d ih =>
    have hp := h p (List.mem_cons_self ..)
    have := ih (fun q hq => h q (List.mem_cons_of_mem _ hq))
    unfold meetZ
    split
    · exact hp.2.1
    · split
      · exact hp.1
      · exact this
theorem meetZ_step {x : Int} {d : List I2} {i : Nat} (hi : i < d.length) : meetZ x (d.drop i) = if (d[i]).1 = x then (d[i]).2 else if (d[i]).2 = x then (d[i]).1 else meetZ x (d.drop (i + 1)) := by
  rw [List.drop_eq_getElem_cons hi]; rfl
set_option maxRecDepth 100000 in
theorem meets_any (q : Option Addr) (c : Nat) (d : List I2) (x : Int) (w : World) (hl : d.length ≤ 1000) (hS : Src2 w q d) :
    Calls Try.prog 52 #[.slice q d.length c, .int .i64 x] w fun e w' => e = .returned (.int .i64 (meetZ x d)) ∧ w' = w := by
  have HS := Lib.hid hS
  obtain ⟨dl, HL⟩ : ∃ dl, Hid (d.length = dl) := ⟨_, rfl⟩
  rw [HL.out] at hl ⊢
  clear hS
  obtain ⟨wo, hwo⟩ : ∃ wo, Hid (wo = w) := ⟨_, rfl⟩
  go_enter Try.func52, Try.ntmps52
  go_upto_region 2 with (fail)
  go_loopw [5] (fun s5 wr => ∃ i : Nat, i ≤ dl ∧ s5 = .int .i64 (i : Int) ∧ Hid (meetZ x d = meetZ x (d.drop i)) ∧ Hid (wr = wo)) (fun s5 _ => dl - (intOf s5).toNat)
  case atStart => exact ⟨0, by omega, rfl, rfl, hwo.symm⟩
  case round =>
    obtain ⟨i, hi, rfl, hE, hw⟩ := hrel
    by_cases hin : i < dl
    · have g1 : (i : Int) < (dl : Int) := by omega
      have hil : i < d.length := by rw [HL.out]; exact hin
      obtain ⟨b, o, rfl, hb, hc⟩ := HS.out (by omega)
      obtain ⟨c0, c1⟩ := hc i hil
      have HST : Hid (meetZ x d = if (d[i]).1 = x then (d[i]).2 else if (d[i]).2 = x then (d[i]).1 else meetZ x (d.drop (i + 1))) := by rw [Hid, hE.out, meetZ_step hil]
      generalize d[i] = p at *
      obtain ⟨p1, p2⟩ := p
      simp only at c0 c1
      have hw2 : wr = w := by rw [hw.out, hwo.out]
      rw [← hw2] at c0 c1
      have hwr := Lib.hid hw2
      clear hw2 hc hE hb
      by_cases h1 : p1 = x
      · have HV : Hid (meetZ x d = p2) := by rw [Hid, HST.out]; simp [h1]
        have q1 : (p1 == x) = true := by simpa using h1
        clear h1 HST
        go_wp2
        go_ret
        exact ⟨by rw [HV.out]; rfl, hwr.out⟩
      · have q1 : (p1 == x) = false := by simpa using h1
        by_cases h2 : p2 = x
        · have HV : Hid (meetZ x d = p1) := by rw [Hid, HST.out]; simp [h1, h2]
          have q2 : (p2 == x) = true := by simpa using h2
          clear h1 h2 HST
          go_wp2
          go_ret
          exact ⟨by rw [HV.out]; rfl, hwr.out⟩
        · have q2 : (p2 == x) = false := by simpa using h2
          have HV : Hid (meetZ x d = meetZ x (d.drop (i + 1))) := by rw [Hid, HST.out]; simp [h1, h2]
          clear h1 h2 HST
          go_wp2
          exact ⟨⟨i + 1, by omega, int_eq (by omega), HV, hw⟩, by simp [intOf]; omega⟩
    · have g1 : ¬ (i : Int) < (dl : Int) := by omega
      obtain rfl : dl = i := by omega
      have HV : Hid (meetZ x d = 0) := by
        rw [Hid, hE.out, List.drop_of_length_le (by rw [HL.out]; exact Nat.le_refl _)]; rfl
      have hwr := Lib.hid (hw.out.trans hwo.out)
      go_wp2
      go_ret
      exact ⟨by rw [HV.out]; rfl, hwr.out⟩
end Go.Proofs.Ytocnhikohfkcaaa
namespace Go.Proofs.Ytocnhikohfkcaaa
open Go.RowKit Go.Shelf
attribute [local go_sem] Oper.semAt_some

/-- whom x meets in round r -/
def mt (s : List (List I2)) (r x : Nat) : Nat := (meetZ (x : Int) ((s[r]?).getD [])).toNat
def cyRow (s : List (List I2)) (r k : Nat) : List (Nat × Nat) := (List.range k).map fun x => (mt s r x, mt s ((r + 1) % s.length) x)
/-- what follows what, up to boat k of round r -/
def cyL (s : List (List I2)) (n r k : Nat) : List (Nat × Nat) := ((List.range r).flatMap fun q => cyRow s q n) ++ cyRow s r k
theorem cyL_succ (s : List (List I2)) (n r k : Nat) : cyL s n r (k + 1) = cyL s n r k ++ [(mt s r k, mt s ((r + 1) % s.length) k)] := by
  unfold cyL cyRow
  rw [List.range_succ, List.map_append, List.append_assoc]
  rfl
theorem cyL_row (s : List (List I2)) (n r : Nat) : cyL s n (r + 1) 0 = cyL s n r n := by
  unfold cyL
  rw [List.range_succ, List.flatMap_append]
  simp [cyRow]
theorem cyL_len (s : List (List I2)) (n r k : Nat) : (cyL s n r k).length = r * n + k := by
  unfold cyL
  rw [List.length_append]
  have h1 : ∀ r, ((List.range r).flatMap fun q => cyRow s q n).length = r * n := fun r => by
    induction r with
    | zero => simp
    | succ r ih => rw [List.range_succ, List.flatMap_append, List.length_append, ih, Nat.add_mul]; simp [cyRow]
  rw [h1]
  simp [cyRow]
def cyF (s : List (List I2)) (n r k : Nat) (i j : Nat) : Int := (((cyL s n r k).count (i, j) : Nat) : Int)
theorem underIs : Try.prog.underlying 53 = some (.slice 43) := by kernel_rfl
theorem infoIs : (Try.prog.info? 43).map (fun i => (i.zero, i.size, i.bytes)) = some (some (.slice none 0 0), 1, 24) := by kernel_rfl
set_option maxRecDepth 100000 in
set_option maxHeartbeats 8000000 in
theorem RCarry_any (n : Nat) (p : Option Addr) (c : Nat) (s : List (List I2)) (w : World) (hn1 : 1 ≤ n) (hn : n ≤ 16) (hs1 : 1 ≤ s.length) (hsl : s.length ≤ 20) (hrl : ∀ d ∈ s, d.length ≤ 1000)
    (hrg : ∀ d ∈ s, ∀ p ∈ d, (0 ≤ p.1 ∧ p.1 < (n : Int)) ∧ (0 ≤ p.2 ∧ p.2 < (n : Int)) ∧ p.1 ≠ p.2) (hS : SrcS w p s) :
    Calls Try.prog 32 #[.int .i64 (n : Int), .slice p s.length c] w fun e w' => (∃ v rb, e = .returned v ∧ TabI w' w.heap.size v n n rb (cyF s n s.length 0)) ∧ Below w.heap.size w w' := by
  obtain ⟨i0, hi0, hz0, hz1, hz2⟩ := info_parts infoIs
  obtain ⟨vs, hv1, hv2, hmk⟩ := make_ints n (by omega)
  have HVS : Hid (vs.size = n ∧ ∀ j, j < n → vs[j]? = some (.int .i64 0)) := ⟨hv1, hv2⟩
  have HS := Lib.hid hS
  have HMB : Hid (∀ r, r < s.length → ∀ x, ((mt s r x : Nat) : Int) = meetZ x ((s[r]?).getD []) ∧ mt s r x < n) := fun r hr x => by
    have h1 := meetZ_rng hn1 (hrg s[r] (List.getElem_mem hr)) (x : Int)
    unfold mt
    rw [List.getElem?_eq_getElem hr]
    simp only [Option.getD_some]
    omega
  have HME : Hid (∀ r (hr : r < s.length), ∀ q cq W, Src2 W q s[r] → ∀ x : Nat, Calls Try.prog 52 #[.slice q (s[r]).length cq, .int .i64 (x : Int)] W fun e w' => e = .returned (.int .i64 ((mt s r x : Nat) : Int)) ∧ w' = W) := fun r hr q cq W hW x => by
    have h1 := (HMB.out r hr x).1
    rw [List.getElem?_eq_getElem hr] at h1
    simp only [Option.getD_some] at h1
    rw [h1]
    exact meets_any q cq s[r] x W (hrl _ (List.getElem_mem hr)) hW
  obtain ⟨len, HL⟩ : ∃ len, Hid (s.length = len) := ⟨_, rfl⟩
  rw [HL.out] at hs1 hsl ⊢
  clear hS hrl hrg hv1 hv2
  go_enter Try.func32, Try.ntmps32
  go_upto_region 3 with (fail)
  go_loopw [5, 6] (fun s5 s6 wr => ∃ (i : Nat) (rb : Nat → Nat), i ≤ n ∧ s6 = .int .i64 (i : Int) ∧ Hid (TabI wr w.heap.size s5 i n rb (fun _ _ => 0)) ∧ Hid (Below w.heap.size w wr)) (fun _ s6 _ => n - (intOf s6).toNat)
  case atStart => exact ⟨0, fun _ => 0, by omega, rfl, TabI.nil _ _ _ _ _, Below.refl _ _⟩
  case round =>
    obtain ⟨i, rb, hi, rfl, hT, hB⟩ := hrel
    obtain ⟨p5, c5, rfl⟩ := hT.out.q.isSlice
    have hwr : w.heap.size ≤ wr.heap.size := hB.out.size
    by_cases hin : i < n
    · have g1 : (i : Int) < (n : Int) := by omega
      have hmk1 := hmk wr
      have HQA := Lib.hid ((hT.out.q.alloc (.cells vs 3)).alloc (.cells #[.slice (some ⟨wr.heap.size, 0, none⟩) n n] 43))
      have HCN : Hid (∀ (j : Nat) (x : Value), [Value.slice (some ⟨wr.heap.size, 0, none⟩) n n][j]? = some x → ((wr.alloc (.cells vs 3)).alloc (.cells #[.slice (some ⟨wr.heap.size, 0, none⟩) n n] 43)).cell? ((⟨wr.heap.size + 1, 0, none⟩ : Addr).add j) = some x) := by
        have := cells_new1 (wr.alloc (.cells vs 3)) 43 (.slice (some ⟨wr.heap.size, 0, none⟩) n n)
        rw [World.size_alloc] at this
        exact this
      have HBA : Hid (Below w.heap.size w ((wr.alloc (.cells vs 3)).alloc (.cells #[.slice (some ⟨wr.heap.size, 0, none⟩) n n] 43))) := (hB.out.alloc hwr _).alloc (by simp; omega) _
      go_wp2_with (at_builtin; go_must (refine wpList_append_q _ rfl (.tmp 17) (.tmp 20) 53 rfl w.heap.size 43 i0 (.slice none 0 0) 1 24 underIs hi0 hz0 hz1 hz2 rfl (by decide) _ i _ rfl HQA.out ⟨_, 0, none⟩ 1 1 [.slice (some ⟨wr.heap.size, 0, none⟩) n n] rfl rfl HCN.out (by simp [Value.oneCell']) (by unfold maxLen; omega) (by omega) (by simp; omega) ?_); intro v8 w8 hq8 hg8 ho8; have HT8 := Lib.hid (hT.out.push hwr HVS.out hg8 hq8); have HB8 : Hid (Below w.heap.size w w8) := Below.grown HBA.out hg8 (by simp; omega) (fun kk e => (hT.out.q.lt kk e).1); clear hq8 hg8 ho8)
      exact ⟨⟨i + 1, _, by omega, int_eq (by omega), HT8, HB8⟩, by simp [intOf]; omega⟩
    · have g1 : ¬ (i : Int) < (n : Int) := by omega
      obtain rfl : n = i := by omega
      have HT0 : Hid (TabI wr w.heap.size (.slice p5 n c5) n n rb (cyF s n 0 0)) := hT.out.congr fun i j _ _ => by simp [cyF, cyL, cyRow]
      obtain ⟨g, o5, c6, e5, hgb, _, _, _⟩ := hT.out.at (by omega)
      cases e5
      have HRL := Lib.hid hT.out.low
      obtain ⟨wo, hwo⟩ : ∃ wo, Hid (wo = wr) := ⟨_, rfl⟩
      rw [← hwo.out] at HT0 hB ⊢
      clear hT hwo hmk HVS
      go_upto_region 7 with (fail)
      go_loopw [7] (fun s7 wq => ∃ r : Nat, r ≤ len ∧ s7 = .int .i64 (r : Int) ∧ Hid (TabI wq w.heap.size (.slice (some ⟨g, o5, none⟩) n c5) n n rb (cyF s n r 0)) ∧ Hid (Below w.heap.size w wq)) (fun s7 _ => len - (intOf s7).toNat)
      case atStart => exact ⟨0, by omega, rfl, HT0, hB⟩
      case round =>
        clear HT0 hB
        obtain ⟨r, hr, rfl, hT, hB⟩ := hrel
        by_cases hrn : r < len
        · have g2 : (r : Int) < (len : Int) := by omega
          have hrl : r < s.length := by rw [HL.out]; exact hrn
          obtain ⟨r2, hr2⟩ : ∃ r2, Hid ((r + 1) % len = r2) := ⟨_, rfl⟩
          have hr2n : r2 < len := by rw [← hr2.out]; exact Nat.mod_lt _ (by omega)
          have hr2l : r2 < s.length := by rw [HL.out]; exact hr2n
          have e2 : Int.tmod ((r : Int) + 1) (len : Int) = (r2 : Int) := by rw [Int.tmod_eq_emod_of_nonneg (by omega), ← hr2.out]; rfl
          obtain ⟨b, o, rfl, hb, hcs⟩ := HS.out (by omega)
          obtain ⟨q1, cq1, k1, _, hz1'⟩ := hcs r hrl
          obtain ⟨q2, cq2, k2, _, hz2'⟩ := hcs r2 hr2l
          obtain ⟨l1, hl1⟩ : ∃ l1, Hid ((s[r]).length = l1) := ⟨(s[r]).length, rfl⟩
          obtain ⟨l2, hl2⟩ : ∃ l2, Hid ((s[r2]).length = l2) := ⟨(s[r2]).length, rfl⟩
          have HM1 := Lib.hid (fun W (hW : Below w.heap.size w W) (x : Nat) => HME.out r hrl q1 cq1 W (hz1'.below hW (Nat.le_refl _)) x)
          have HM2 := Lib.hid (fun W (hW : Below w.heap.size w W) (x : Nat) => HME.out r2 hr2l q2 cq2 W (hz2'.below hW (Nat.le_refl _)) x)
          have HB1 := Lib.hid (fun x => (HMB.out r hrl x).2)
          have HB2 := Lib.hid (fun x => (HMB.out r2 hr2l x).2)
          rw [hl1.out] at k1 HM1
          rw [hl2.out] at k2 HM2
          have HC : Hid (∀ W, Below w.heap.size w W → W.cell? ⟨b, o + r, none⟩ = some (.slice q1 l1 cq1) ∧ W.cell? ⟨b, o + r2, none⟩ = some (.slice q2 l2 cq2)) := fun W hW => ⟨(hW.cell (p := ⟨b, o + r, none⟩) hb).trans k1, (hW.cell (p := ⟨b, o + r2, none⟩) hb).trans k2⟩
          have HSU : Hid (∀ x, cyL s n r (x + 1) = cyL s n r x ++ [(mt s r x, mt s r2 x)]) := fun x => by rw [cyL_succ, HL.out, hr2.out]
          clear k1 k2 hz1' hz2' hcs
          go_upto_region 10 with (fail)
          go_loopw [8] (fun s8 wq => ∃ x : Nat, x ≤ n ∧ s8 = .int .i64 (x : Int) ∧ Hid (TabI wq w.heap.size (.slice (some ⟨g, o5, none⟩) n c5) n n rb (cyF s n r x)) ∧ Hid (Below w.heap.size w wq)) (fun s8 _ => n - (intOf s8).toNat)
          case atStart => exact ⟨0, by omega, rfl, hT, hB⟩
          case round =>
            clear hT hB
            obtain ⟨x, hx, rfl, hT, hB⟩ := hrel
            have hwr : w.heap.size ≤ wr.heap.size := hB.out.size
            by_cases hxn : x < n
            · have g3 : (x : Int) < (n : Int) := by omega
              have hcl := cyL_len s n r x
              have HSX := Lib.hid (HSU.out x)
              have ha := HB1.out x
              have hb2 := HB2.out x
              have HBD : Hid (∀ d : BW wr.heap.size wr, Below w.heap.size w d.w) := fun d => hB.out.trans (d.b.mono hwr)
              have r1 : ∀ d : BW wr.heap.size wr, d.w.cell? ⟨b, o + r, none⟩ = some (.slice q1 l1 cq1) := fun d => (HC.out _ (HBD.out d)).1
              have r3 : ∀ d : BW wr.heap.size wr, d.w.cell? ⟨b, o + r2, none⟩ = some (.slice q2 l2 cq2) := fun d => (HC.out _ (HBD.out d)).2
              have HX1 : Hid (∀ d : BW wr.heap.size wr, Calls Try.prog 52 #[.slice q1 l1 cq1, .int .i64 (x : Int)] d.w fun e w' => e = .returned (.int .i64 ((mt s r x : Nat) : Int)) ∧ ∃ d' : BW wr.heap.size wr, w' = d'.w) := fun d => Calls.bw ((HM1.out d.w (HBD.out d) x).mono fun e w' h => ⟨h.1, by rw [h.2]; exact d.b⟩)
              have HX2 : Hid (∀ d : BW wr.heap.size wr, Calls Try.prog 52 #[.slice q2 l2 cq2, .int .i64 (x : Int)] d.w fun e w' => e = .returned (.int .i64 ((mt s r2 x : Nat) : Int)) ∧ ∃ d' : BW wr.heap.size wr, w' = d'.w) := fun d => Calls.bw ((HM2.out d.w (HBD.out d) x).mono fun e w' h => ⟨h.1, by rw [h.2]; exact d.b⟩)
              have HTD : Hid (∀ d : BW wr.heap.size wr, TabI d.w w.heap.size (.slice (some ⟨g, o5, none⟩) n c5) n n rb (cyF s n r x)) := fun d => hT.out.below d.b (Nat.le_refl _)
              generalize mt s r x = a at *
              generalize mt s r2 x = a2 at *
              have hn0 : ((len : Int) == 0) = false := by rw [beq_eq_false_iff_ne]; omega
              have hn0' : (len : Int) ≠ 0 := by omega
              have hr2i : (r2 : Int) < (len : Int) := by omega
              have dr : decide (r < len) = true := by simpa using hrn
              have dr2 : decide (r2 < len) = true := by simpa using hr2n
              clear hT hB
              go_wp2
              refine wp_region_bw (by kernel_rfl) (by kernel_rfl) ?_
              repeat (go_big_quiet_step ((first
                | rfl
                | (go_at_call 52; first | with_reducible exact HX1.out _ | with_reducible exact HX2.out _))))
              refine wpQuiet_nil ?_
              rintro _ ⟨d, rfl⟩
              have HT2 := Lib.hid (HTD.out d)
              have HB3 := Lib.hid (HBD.out d)
              clear HX1 HX2 HTD HBD r1 r3
              generalize d.w = wd at *
              have c1 := HT2.out.hdr ha
              have c2 := (HT2.out.rows a ha).cell hb2
              have f2 := (HT2.out.rows a ha).frozen a2
              have hcn : (cyL s n r x).count (a, a2) ≤ 400 := by
                refine Nat.le_trans List.count_le_length ?_
                rw [hcl]
                have : r * n ≤ 20 * 16 := Nat.mul_le_mul (by omega) (by omega)
                omega
              have HTN : Hid (TabI (wd.setCell ⟨rb a, a2, none⟩ (.int .i64 (((cyL s n r x).count (a, a2) : Nat) + 1))) w.heap.size (.slice (some ⟨g, o5, none⟩) n c5) n n rb (cyF s n r (x + 1))) := (HT2.out.set ha hb2 _).congr fun i j _ _ => by
                unfold cyF
                rw [HSX.out, List.count_append]
                by_cases e : i = a ∧ j = a2
                · obtain ⟨rfl, rfl⟩ := e
                  simp
                · rw [if_neg e]
                  have : ¬ ((a, a2) == (i, j)) = true := by simp; intro h1 h2; exact e ⟨h1.symm, h2.symm⟩
                  simp [List.count_cons, this]
              have HBN : Hid (Below w.heap.size w (wd.setCell ⟨rb a, a2, none⟩ (.int .i64 (((cyL s n r x).count (a, a2) : Nat) + 1)))) := HB3.out.setCell (by exact HRL.out a ha) _
              unfold cyF at c2
              generalize (cyL s n r x).count (a, a2) = cn at *
              go_wp2
              exact ⟨⟨x + 1, by omega, int_eq (by omega), HTN, HBN⟩, by simp [intOf]; omega⟩
            · have g3 : ¬ (x : Int) < (n : Int) := by omega
              obtain rfl : n = x := by omega
              have HTN : Hid (TabI wr w.heap.size (.slice (some ⟨g, o5, none⟩) n c5) n n rb (cyF s n (r + 1) 0)) := hT.out.congr fun i j _ _ => by unfold cyF; rw [cyL_row]
              go_wp2
              exact ⟨⟨r + 1, by omega, int_eq (by omega), HTN, hB⟩, by simp [intOf]; omega⟩
        · have g2 : ¬ (r : Int) < (len : Int) := by omega
          obtain rfl : len = r := by omega
          go_wp2
          go_ret
          exact ⟨⟨_, rfl, rb, hT.out⟩, hB.out⟩
end Go.Proofs.Ytocnhikohfkcaaa
namespace Go.Proofs.Ytocnhikohfkcaaa
open Go.RowKit Go.Shelf
attribute [local go_sem] Oper.semAt_some

set_option maxRecDepth 100000 in
set_option maxHeartbeats 8000000 in
theorem RBal_yes (n : Nat) (p : Option Addr) (c : Nat) (s : List (List I2)) (w : World) (hn1 : 1 ≤ n) (hn : n ≤ 16) (hs1 : 1 ≤ s.length) (hsl : s.length ≤ 20) (hrl : ∀ d ∈ s, d.length ≤ 1000)
    (hrg : ∀ d ∈ s, ∀ p ∈ d, (0 ≤ p.1 ∧ p.1 < (n : Int)) ∧ (0 ≤ p.2 ∧ p.2 < (n : Int)) ∧ p.1 ≠ p.2) (hS : SrcS w p s) (hb : ∀ i k, i < n → k < n → i ≠ k → cyF s n s.length 0 i k = 1) :
    Calls Try.prog 16 #[.int .i64 (n : Int), .slice p s.length c] w fun e w' => e = .returned (.bool true) ∧ Below w.heap.size w w' := by
  have HC := Lib.hid (RCarry_any n p c s w hn1 hn hs1 hsl hrl hrg hS)
  have HBL := Lib.hid hb
  obtain ⟨len, HL⟩ : ∃ len, Hid (s.length = len) := ⟨_, rfl⟩
  rw [HL.out] at HC HBL ⊢
  generalize cyF s n len 0 = F at *
  clear hS hrl hrg hb hs1 hsl
  go_enter Try.func16, Try.ntmps16
  go_upto_region 3 with (go_at_call 32; refine HC.out.mono ?_; rintro e w1 ⟨⟨v, rb, rfl, hT⟩, hB⟩; obtain ⟨g, o, c1, rfl, _, _, _, _⟩ := hT.at (by omega); have HT := Lib.hid hT; have HB := Lib.hid hB; clear hT hB)
  go_loopw [6] (fun s6 wq => ∃ i : Nat, i ≤ n ∧ s6 = .int .i64 (i : Int) ∧ Hid (wq = w1)) (fun s6 _ => n - (intOf s6).toNat)
  case atStart => exact ⟨0, by omega, rfl, rfl⟩
  case round =>
    obtain ⟨i, hi, rfl, hw⟩ := hrel
    have hw2 : wr = w1 := hw
    rw [hw2]
    clear hw2 hw
    by_cases hin : i < n
    · have g1 : (i : Int) < (n : Int) := by omega
      have c1 := HT.out.hdr hin
      go_upto_region 6 with (fail)
      go_loopw [7] (fun s7 wq => ∃ k : Nat, k ≤ n ∧ s7 = .int .i64 (k : Int) ∧ Hid (wq = w1)) (fun s7 _ => n - (intOf s7).toNat)
      case atStart => exact ⟨0, by omega, rfl, rfl⟩
      case round =>
        obtain ⟨k, hk, rfl, hw⟩ := hrel
        have hw2 : wr = w1 := hw
        rw [hw2]
        clear hw2 hw
        by_cases hkn : k < n
        · have g2 : (k : Int) < (n : Int) := by omega
          by_cases hik : i = k
          · have q1 : ((i : Int) != (k : Int)) = false := by simp; omega
            clear hik
            go_wp2
            exact ⟨⟨k + 1, by omega, int_eq (by omega), by first | exact trivial | rfl⟩, by simp [intOf]; omega⟩
          · have q1 : ((i : Int) != (k : Int)) = true := by simp; omega
            have c2 := (HT.out.rows i hin).cell hkn
            rw [HBL.out i k hin hkn hik] at c2
            clear hik
            go_wp2
            exact ⟨⟨k + 1, by omega, int_eq (by omega), by first | exact trivial | rfl⟩, by simp [intOf]; omega⟩
        · have g2 : ¬ (k : Int) < (n : Int) := by omega
          go_wp2
          exact ⟨⟨i + 1, by omega, int_eq (by omega), by first | exact trivial | rfl⟩, by simp [intOf]; omega⟩
    · have g1 : ¬ (i : Int) < (n : Int) := by omega
      go_wp2
      go_ret
      exact ⟨rfl, HB.out⟩
end Go.Proofs.Ytocnhikohfkcaaa
namespace Go.Proofs.Ytocnhikohfkcaaa
open Go.RowKit Go.Shelf
attribute [local go_sem] Oper.semAt_some

def polyN (n : Nat) : Nat := if n = 4 then 7 else if n = 8 then 11 else 19
def timN (n x : Nat) : Nat := if n ≤ 2 * x then (2 * x) ^^^ polyN n else 2 * x
def stepN (n : Nat) : Nat → Nat
  | 0 => 1
  | r + 1 => timN n (stepN n r)
def balR (n r : Nat) : Nat → List (Nat × Nat)
  | 0 => []
  | a + 1 => balR n r a ++ (if a < a ^^^ stepN n r then [(a, a ^^^ stepN n r)] else [])
/-- the k-th match of round r of the balanced schedule -/
def balM (n r k : Nat) : Nat × Nat := ((balR n r n)[k]?).getD (0, 0)
def balOk (n : Nat) : Bool := (List.range (n - 1)).all fun r => decide ((balR n r n).length = n / 2) && decide (1 ≤ stepN n r) && decide (stepN n r < n)
theorem balOk_yes {n : Nat} (h : n = 4 ∨ n = 8 ∨ n = 16) : balOk n = true := by
  rcases h with rfl | rfl | rfl <;> decide +kernel
theorem bal_row {n r : Nat} (h : n = 4 ∨ n = 8 ∨ n = 16) (hr : r < n - 1) : (balR n r n).length = n / 2 ∧ 1 ≤ stepN n r ∧ stepN n r < n := by
  have h1 := balOk_yes h
  unfold balOk at h1
  rw [List.all_eq_true] at h1
  have h2 := h1 r (List.mem_range.2 hr)
  simp only [Bool.and_eq_true, decide_eq_true_eq] at h2
  exact ⟨h2.1.1, h2.1.2, h2.2⟩
theorem rowL_bal {n r : Nat} (h : n = 4 ∨ n = 8 ∨ n = 16) (hr : r < n - 1) : rowL (balM n) r (n / 2) = castP (balR n r n) := by
  have hl := (bal_row h hr).1
  unfold rowL castP balM
  refine List.ext_getElem? fun i => ?_
  by_cases hi : i < n / 2
  · have hi2 : i < (balR n r n).length := by omega
    rw [List.getElem?_map, List.getElem?_range hi, List.getElem?_map, List.getElem?_eq_getElem hi2]
    simp only [Option.map_some, Option.getD_some, List.getElem?_eq_getElem hi2]
  · rw [List.getElem?_eq_none (by simp; omega), List.getElem?_eq_none (by simp; omega)]
theorem SchR.mono {W : World} {base base' : Nat} {v : Value} {k h : Nat} {m : Nat → Nat → Nat × Nat} (H : SchR W base v k h m) (hb : base' ≤ base) : SchR W base' v k h m := by
  obtain ⟨xs, h1, h2, h3⟩ := H
  refine ⟨xs, h1.mono hb, fun r hr => ?_, h3⟩
  obtain ⟨p, c, h4, h5⟩ := h2 r hr
  exact ⟨p, c, h4, h5.mono hb⟩
set_option maxRecDepth 100000 in
theorem times_any (bn bp n x poly : Nat) (w : World) (hn : n ≤ 16) (hx : x < 16) (hp : poly ≤ 19) (k1 : w.cell? ⟨bn, 0, none⟩ = some (.int .i64 (n : Int))) (k2 : w.cell? ⟨bp, 0, none⟩ = some (.int .i64 (poly : Int))) :
    Calls Try.prog 36 #[.int .i64 (x : Int), .pointer (some ⟨bn, 0, none⟩), .pointer (some ⟨bp, 0, none⟩)] w fun e w' => e = .returned (.int .i64 ((if n ≤ 2 * x then (2 * x) ^^^ poly else 2 * x : Nat) : Int)) ∧ w' = w := by
  obtain ⟨y, hy⟩ : ∃ y, Hid (2 * x = y) := ⟨_, rfl⟩
  have ey : (x : Int) * 2 = (y : Int) := by have := hy.out; omega
  have hy2 : y < 32 := by have := hy.out; omega
  have HX := Lib.hid (bxor y poly (sm_of (by omega)) (sm_of (by omega)))
  rw [hy.out]
  by_cases h : n ≤ y
  · rw [if_pos h]
    have h1 : (n : Int) ≤ (y : Int) := by omega
    have hx1 := HX.out
    generalize y ^^^ poly = z at *
    go_enter Try.func36, Try.ntmps36
    go_wp2
    go_ret
    exact ⟨rfl, rfl⟩
  · rw [if_neg h]
    have h1 : ¬ (n : Int) ≤ (y : Int) := by omega
    go_enter Try.func36, Try.ntmps36
    go_wp2
    go_ret
    exact ⟨rfl, rfl⟩
set_option maxRecDepth 100000 in
set_option maxHeartbeats 8000000 in
theorem Balanced_ok (n : Nat) (w : World) (hn : n = 4 ∨ n = 8 ∨ n = 16) :
    Calls Try.prog 11 #[.int .i64 (n : Int)] w fun e w' => ∃ v, e = .returned (.tuple #[v, .int .i64 0]) ∧ SchR w' w.heap.size v (n - 1) (n / 2) (balM n) ∧ Below w.heap.size w w' := by
  obtain ⟨i0, hi0, hz0, hz1, hz2⟩ := info_parts infoP
  obtain ⟨i1, hi1, hy0, hy1, hy2⟩ := info_parts infoR
  have HI := Lib.hid (fun W => isRight_yes n W (by omega) (by omega) (by omega))
  have hcase : ∃ poly, Hid (polyN n = poly) ∧ ((((n : Int) == 4) = true ∧ poly = 7) ∨ (((n : Int) == 4) = false ∧ ((n : Int) == 8) = true ∧ poly = 11) ∨ (((n : Int) == 4) = false ∧ ((n : Int) == 8) = false ∧ ((n : Int) == 16) = true ∧ poly = 19)) := by
    rcases hn with rfl | rfl | rfl
    · exact ⟨7, rfl, .inl ⟨rfl, rfl⟩⟩
    · exact ⟨11, rfl, .inr (.inl ⟨rfl, rfl, rfl⟩)⟩
    · exact ⟨19, rfl, .inr (.inr ⟨rfl, rfl, rfl, rfl⟩)⟩
  obtain ⟨poly, HPO, hcase⟩ := hcase
  have HROW := Lib.hid (fun r (hr : r < n - 1) => bal_row hn hr)
  have HRB := Lib.hid (fun r (hr : r < n - 1) => rowL_bal hn hr)
  obtain ⟨h, hh⟩ : ∃ h, Hid (n / 2 = h) := ⟨_, rfl⟩
  obtain ⟨n1, hn1⟩ : ∃ n1, Hid (n - 1 = n1) := ⟨_, rfl⟩
  have hsub : (n : Int) - 1 = (n1 : Int) := by have := hn1.out; omega
  have hn16 : n ≤ 16 := by omega
  have hh8 : h ≤ 8 := by have := hh.out; omega
  have HN1 : Hid (n = n1 + 1) := by have := hn1.out; unfold Hid; omega
  rw [hh.out] at HROW HRB ⊢
  rw [hn1.out] at HROW HRB ⊢
  clear hn
  go_enter Try.func11, Try.ntmps11
  rcases hcase with ⟨q1, rfl⟩ | ⟨q1, q2, rfl⟩ | ⟨q1, q2, q3, rfl⟩
  · go_upto_region 15 with (go_at_call 35; refine (HI.out _).mono ?_; rintro e w4 ⟨rfl, hw4⟩; replace hw4 := hw4.symm; subst hw4; try dsimp only)
    have HXN : Hid (BoxN ((w.alloc (.cells #[.int .i64 (n : Int)] 3)).alloc (.cells #[.int .i64 7] 3)) w.heap.size 3 #[.int .i64 (n : Int)]) := (BoxN.new rfl).alloc _
    have HXP : Hid (BoxN ((w.alloc (.cells #[.int .i64 (n : Int)] 3)).alloc (.cells #[.int .i64 7] 3)) (w.heap.size + 1) 3 #[.int .i64 7]) := BoxN.new (by simp)
    have HBX : Hid (Below w.heap.size w ((w.alloc (.cells #[.int .i64 (n : Int)] 3)).alloc (.cells #[.int .i64 7] 3))) := ((Below.refl _ _).alloc (Nat.le_refl _) _).alloc (by simp) _
    obtain ⟨bn, hbn⟩ : ∃ bn, Hid (bn = w.heap.size) := ⟨_, rfl⟩
    obtain ⟨bp, hbp⟩ : ∃ bp, Hid (bp = w.heap.size + 1) := ⟨_, rfl⟩
    rw [← hbn.out] at HXN
    rw [← hbp.out] at HXP
    rw [← hbp.out, ← hbn.out]
    generalize ((w.alloc (.cells #[.int .i64 (n : Int)] 3)).alloc (.cells #[.int .i64 7] 3)) = U at *
    have HCN : Hid (∀ W, Below U.heap.size U W → W.cell? ⟨bn, 0, none⟩ = some (.int .i64 (n : Int)) ∧ W.cell? ⟨bp, 0, none⟩ = some (.int .i64 7)) := fun W hW => ⟨(hW.cell (p := ⟨bn, 0, none⟩) HXN.out.lt).trans (HXN.out.cell 0), (hW.cell (p := ⟨bp, 0, none⟩) HXP.out.lt).trans (HXP.out.cell 0)⟩
    have HTI : Hid (∀ W, Below U.heap.size U W → ∀ r, r < n1 → Calls Try.prog 36 #[.int .i64 ((stepN n r : Nat) : Int), .pointer (some ⟨bn, 0, none⟩), .pointer (some ⟨bp, 0, none⟩)] W fun e w' => e = .returned (.int .i64 ((stepN n (r + 1) : Nat) : Int)) ∧ w' = W) := fun W hW r hr => by
      have h1 := times_any bn bp n (stepN n r) (polyN n) W (by omega) (by have := (HROW.out r hr).2.2; omega) (by rw [HPO.out]; decide) (HCN.out W hW).1 (by rw [HPO.out]; exact (HCN.out W hW).2)
      show Calls _ _ _ _ fun e w' => e = .returned (.int .i64 ((timN n (stepN n r) : Nat) : Int)) ∧ w' = W
      unfold timN
      exact h1
    clear HXN HXP
    go_loopw [6, 7, 8] (fun s6 s7 s8 wr => ∃ r : Nat, r ≤ n1 ∧ s7 = .int .i64 (r : Int) ∧ s8 = .int .i64 ((stepN n r : Nat) : Int) ∧ Hid (SchR wr U.heap.size s6 r h (balM n)) ∧ Hid (Below U.heap.size U wr)) (fun _ s7 _ _ => n1 - (intOf s7).toNat)
    case atStart => exact ⟨0, by omega, rfl, rfl, SchR.nil _ _ _ _, Below.refl _ _⟩
    case round =>
      obtain ⟨r, hr, rfl, rfl, hS, hB⟩ := hrel
      obtain ⟨p6, c6, rfl⟩ := hS.out.isSlice
      obtain ⟨wo, hwo⟩ : ∃ wo, Hid (wo = wr) := ⟨_, rfl⟩
      rw [← hwo.out] at hS hB ⊢
      clear hwo
      have hUo : U.heap.size ≤ wo.heap.size := hB.out.size
      have c1 := (HCN.out wo hB.out).1
      by_cases hrn : r < n1
      · have g1 : (r : Int) < (n1 : Int) := by omega
        have hst := (HROW.out r hrn).2.2
        have hsl := Lib.hid (HROW.out r hrn).1
        have HRW := Lib.hid (HRB.out r hrn)
        have HT1 := Lib.hid (fun W hW => HTI.out W hW r hrn)
        generalize hst2 : stepN n r = st at *
        have HST := Lib.hid hst2
        clear hst2
        go_upto_region 19 with (fail)
        go_loopw [9, 33] (fun s9 s33 wq => ∃ a : Nat, a ≤ n ∧ s33 = .int .i64 (a : Int) ∧ Hid (QRow wq wo.heap.size 58 2 s9 (balR n r a).length (pairCells (castP (balR n r a)))) ∧ Hid (Below wo.heap.size wo wq)) (fun _ s33 _ => n - (intOf s33).toNat)
        case atStart => exact ⟨0, by omega, rfl, QRow.nil _ _ _ _, Below.refl _ _⟩
        case round =>
          obtain ⟨a, ha, rfl, hQ, hBo⟩ := hrel
          obtain ⟨p9, c9, rfl⟩ := hQ.out.isSlice
          have hwo : wo.heap.size ≤ wr.heap.size := hBo.out.size
          by_cases han : a < n
          · have g2 : (a : Int) < (n : Int) := by omega
            have HBS : Hid (balR n r (a + 1) = balR n r a ++ (if a < a ^^^ st then [(a, a ^^^ st)] else [])) := by rw [← HST.out]; rfl
            have hlen : (balR n r a).length ≤ a := by
              have key : ∀ a, (balR n r a).length ≤ a := fun a => by
                induction a with
                | zero => exact Nat.le_refl _
                | succ a ih => unfold balR; rw [List.length_append]; split <;> simp <;> omega
              exact key a
            have ex := bxor a st (sm_of (by omega)) (sm_of (by omega))
            have hxl : a ^^^ st < 16 := Nat.xor_lt_two_pow (n := 4) (by omega) (by omega)
            generalize balR n r a = L at *
            generalize a ^^^ st = b at *
            obtain ⟨k, hk⟩ : ∃ k, Hid (L.length = k) := ⟨_, rfl⟩
            rw [hk.out] at hQ hlen ⊢
            by_cases hab : a < b
            · have g3 : (a : Int) < (b : Int) := by omega
              rw [if_pos hab] at HBS
              have HQA := Lib.hid (hQ.out.alloc (.cells #[.int .i64 (a : Int), .int .i64 (b : Int)] 58))
              have HLT := Lib.hid (fun kk (e : _ = some kk) => (hQ.out.lt kk e).1)
              have HPC : Hid (pairCells (castP (balR n r (a + 1))) = pairCells (castP L) ++ [.int .i64 (a : Int), .int .i64 (b : Int)]) := by unfold Hid; rw [HBS.out, castP_app, pairCells_append]; rfl
              have HLC : Hid ((balR n r (a + 1)).length = k + 1) := by unfold Hid; rw [HBS.out, List.length_append, hk.out]; rfl
              have HBA : Hid (Below wo.heap.size wo (wr.alloc (.cells #[.int .i64 (a : Int), .int .i64 (b : Int)] 58))) := hBo.out.alloc hwo _
              go_wp2_with (at_builtin; go_must (refine wpList_append_q _ rfl (.tmp 42) (.tmp 46) 59 rfl wo.heap.size 58 i0 _ 2 16 underR hi0 hz0 hz1 hz2 rfl (by decide) _ k (pairCells (castP L)) rfl HQA.out ⟨wr.heap.size, 0, none⟩ 1 1 [.int .i64 (a : Int), .int .i64 (b : Int)] rfl rfl (cells_newB _ _ _ _) (by simp [Value.oneCell']) (by unfold maxLen; omega) (by omega) (by simp; omega) ?_); intro v7 w7 hq7 hg7 ho7; have HQ7 : Hid (QRow w7 wo.heap.size 58 2 v7 (balR n r (a + 1)).length (pairCells (castP (balR n r (a + 1))))) := (by rw [HPC.out, HLC.out]; exact hq7); have HB7 : Hid (Below wo.heap.size wo w7) := Below.grown HBA.out hg7 (by simp; omega) (fun kk e => HLT.out kk e); clear hq7 hg7 ho7)
              exact ⟨⟨a + 1, by omega, int_eq (by omega), HQ7, HB7⟩, by simp [intOf]; omega⟩
            · have g3 : ¬ (a : Int) < (b : Int) := by omega
              rw [if_neg hab, List.append_nil] at HBS
              have HQ7 : Hid (QRow wr wo.heap.size 58 2 (.slice p9 k c9) (balR n r (a + 1)).length (pairCells (castP (balR n r (a + 1))))) := by rw [HBS.out, hk.out]; exact hQ
              go_wp2
              exact ⟨⟨a + 1, by omega, int_eq (by omega), HQ7, hBo⟩, by simp [intOf]; omega⟩
          · have g2 : ¬ (a : Int) < (n : Int) := by omega
            obtain rfl : n = a := by omega
            have HQF : Hid (QRow wr wo.heap.size 58 2 (.slice p9 h c9) h (pairCells (rowL (balM n) r h))) := by rw [HRW.out, ← hsl.out]; exact hQ
            have hwo2 := hwo
            rw [hsl.out]
            obtain ⟨xs, h1o, h2o, h5o⟩ := hS.out
            have HBW := Lib.hid (hB.out.trans (hBo.out.mono hUo))
            have hww : U.heap.size ≤ wr.heap.size := HBW.out.size
            have h1 := h1o.below hBo.out (fun k' hk' => (h1o.lt k' hk').2)
            have HDD := Lib.hid h5o
            have HNN : Hid (∀ r' x b, r' < r → xs[r']? = some x → x.ownBlock = some b → (Value.slice p9 h c9).ownBlock ≠ some b) := fun r' x b hr' hx hb e => by
              obtain ⟨p, c, e1, e2⟩ := h2o r' hr'
              rw [hx] at e1
              cases e1
              have h6 := (e2.lt b hb).2
              have h7 := (HQF.out.lt b e).1
              omega
            have H1A := Lib.hid (h1.alloc (.cells #[.slice p9 h c9] 59))
            have H2A : Hid (∀ r', r' < r → ∃ p c, xs[r']? = some (.slice p h c) ∧ QRow (wr.alloc (.cells #[.slice p9 h c9] 59)) U.heap.size 58 2 (.slice p h c) h (pairCells (rowL (balM n) r' h))) := fun r' hr' => by
              obtain ⟨p, c, e1, e2⟩ := h2o r' hr'
              exact ⟨p, c, e1, (e2.below hBo.out (fun k' hk' => (e2.lt k' hk').2)).alloc _⟩
            have HQA := Lib.hid ((HQF.out.mono hUo).alloc (.cells #[.slice p9 h c9] 59))
            have HLT := Lib.hid (fun kk (e : _ = some kk) => (h1.lt kk e).1)
            clear h1 h1o h2o h5o hQ
            go_wp2_with (first
              | (at_builtin; go_must (refine wpList_append_q _ rfl (.tmp 49) (.tmp 51) 22 rfl U.heap.size 59 i1 (.slice none 0 0) 1 24 underS hi1 hy0 hy1 hy2 rfl (by decide) _ r xs rfl H1A.out ⟨_, 0, none⟩ 1 1 [.slice p9 h c9] rfl rfl (cells_new1 _ _ _) (by simp [Value.oneCell']) (by unfold maxLen; omega) (by omega) (by simp; omega) ?_); intro v5 w5 hq5 hg5 ho5; have HR5 : Hid (SchR w5 U.heap.size v5 (r + 1) h (balM n)) := SchR.push H2A.out H1A.out HQA.out hg5 hq5 HDD.out HNN.out; have HB5 : Hid (Below U.heap.size U w5) := Below.grown (HBW.out.alloc hww _) hg5 (by simp; omega) (fun kk e => HLT.out kk e); have HT5 := Lib.hid (HT1.out w5 HB5.out); clear hq5 hg5 ho5)
              | (go_at_call 36; refine HT5.out.mono ?_; rintro e w6 ⟨rfl, hw6⟩; replace hw6 := hw6.symm; subst hw6; try dsimp only))
            exact ⟨⟨r + 1, by omega, int_eq (by omega), rfl, HR5, HB5⟩, by simp [intOf]; omega⟩
      · have g1 : ¬ (r : Int) < (n1 : Int) := by omega
        obtain rfl : n1 = r := by omega
        go_wp2
        refine bodyPost_ret (v := .tuple #[.slice p6 n1 c6, .int .i64 0]) (by simp [results, Try.f11, go_sem]) rfl ?_
        exact ⟨_, rfl, hS.out.mono HBX.out.size, HBX.out.trans (hB.out.mono HBX.out.size)⟩
  · go_upto_region 15 with (go_at_call 35; refine (HI.out _).mono ?_; rintro e w4 ⟨rfl, hw4⟩; replace hw4 := hw4.symm; subst hw4; try dsimp only)
    have HXN : Hid (BoxN ((w.alloc (.cells #[.int .i64 (n : Int)] 3)).alloc (.cells #[.int .i64 11] 3)) w.heap.size 3 #[.int .i64 (n : Int)]) := (BoxN.new rfl).alloc _
    have HXP : Hid (BoxN ((w.alloc (.cells #[.int .i64 (n : Int)] 3)).alloc (.cells #[.int .i64 11] 3)) (w.heap.size + 1) 3 #[.int .i64 11]) := BoxN.new (by simp)
    have HBX : Hid (Below w.heap.size w ((w.alloc (.cells #[.int .i64 (n : Int)] 3)).alloc (.cells #[.int .i64 11] 3))) := ((Below.refl _ _).alloc (Nat.le_refl _) _).alloc (by simp) _
    obtain ⟨bn, hbn⟩ : ∃ bn, Hid (bn = w.heap.size) := ⟨_, rfl⟩
    obtain ⟨bp, hbp⟩ : ∃ bp, Hid (bp = w.heap.size + 1) := ⟨_, rfl⟩
    rw [← hbn.out] at HXN
    rw [← hbp.out] at HXP
    rw [← hbp.out, ← hbn.out]
    generalize ((w.alloc (.cells #[.int .i64 (n : Int)] 3)).alloc (.cells #[.int .i64 11] 3)) = U at *
    have HCN : Hid (∀ W, Below U.heap.size U W → W.cell? ⟨bn, 0, none⟩ = some (.int .i64 (n : Int)) ∧ W.cell? ⟨bp, 0, none⟩ = some (.int .i64 11)) := fun W hW => ⟨(hW.cell (p := ⟨bn, 0, none⟩) HXN.out.lt).trans (HXN.out.cell 0), (hW.cell (p := ⟨bp, 0, none⟩) HXP.out.lt).trans (HXP.out.cell 0)⟩
    have HTI : Hid (∀ W, Below U.heap.size U W → ∀ r, r < n1 → Calls Try.prog 36 #[.int .i64 ((stepN n r : Nat) : Int), .pointer (some ⟨bn, 0, none⟩), .pointer (some ⟨bp, 0, none⟩)] W fun e w' => e = .returned (.int .i64 ((stepN n (r + 1) : Nat) : Int)) ∧ w' = W) := fun W hW r hr => by
      have h1 := times_any bn bp n (stepN n r) (polyN n) W (by omega) (by have := (HROW.out r hr).2.2; omega) (by rw [HPO.out]; decide) (HCN.out W hW).1 (by rw [HPO.out]; exact (HCN.out W hW).2)
      show Calls _ _ _ _ fun e w' => e = .returned (.int .i64 ((timN n (stepN n r) : Nat) : Int)) ∧ w' = W
      unfold timN
      exact h1
    clear HXN HXP
    go_loopw [6, 7, 8] (fun s6 s7 s8 wr => ∃ r : Nat, r ≤ n1 ∧ s7 = .int .i64 (r : Int) ∧ s8 = .int .i64 ((stepN n r : Nat) : Int) ∧ Hid (SchR wr U.heap.size s6 r h (balM n)) ∧ Hid (Below U.heap.size U wr)) (fun _ s7 _ _ => n1 - (intOf s7).toNat)
    case atStart => exact ⟨0, by omega, rfl, rfl, SchR.nil _ _ _ _, Below.refl _ _⟩
    case round =>
      obtain ⟨r, hr, rfl, rfl, hS, hB⟩ := hrel
      obtain ⟨p6, c6, rfl⟩ := hS.out.isSlice
      obtain ⟨wo, hwo⟩ : ∃ wo, Hid (wo = wr) := ⟨_, rfl⟩
      rw [← hwo.out] at hS hB ⊢
      clear hwo
      have hUo : U.heap.size ≤ wo.heap.size := hB.out.size
      have c1 := (HCN.out wo hB.out).1
      by_cases hrn : r < n1
      · have g1 : (r : Int) < (n1 : Int) := by omega
        have hst := (HROW.out r hrn).2.2
        have hsl := Lib.hid (HROW.out r hrn).1
        have HRW := Lib.hid (HRB.out r hrn)
        have HT1 := Lib.hid (fun W hW => HTI.out W hW r hrn)
        generalize hst2 : stepN n r = st at *
        have HST := Lib.hid hst2
        clear hst2
        go_upto_region 19 with (fail)
        go_loopw [9, 33] (fun s9 s33 wq => ∃ a : Nat, a ≤ n ∧ s33 = .int .i64 (a : Int) ∧ Hid (QRow wq wo.heap.size 58 2 s9 (balR n r a).length (pairCells (castP (balR n r a)))) ∧ Hid (Below wo.heap.size wo wq)) (fun _ s33 _ => n - (intOf s33).toNat)
        case atStart => exact ⟨0, by omega, rfl, QRow.nil _ _ _ _, Below.refl _ _⟩
        case round =>
          obtain ⟨a, ha, rfl, hQ, hBo⟩ := hrel
          obtain ⟨p9, c9, rfl⟩ := hQ.out.isSlice
          have hwo : wo.heap.size ≤ wr.heap.size := hBo.out.size
          by_cases han : a < n
          · have g2 : (a : Int) < (n : Int) := by omega
            have HBS : Hid (balR n r (a + 1) = balR n r a ++ (if a < a ^^^ st then [(a, a ^^^ st)] else [])) := by rw [← HST.out]; rfl
            have hlen : (balR n r a).length ≤ a := by
              have key : ∀ a, (balR n r a).length ≤ a := fun a => by
                induction a with
                | zero => exact Nat.le_refl _
                | succ a ih => unfold balR; rw [List.length_append]; split <;> simp <;> omega
              exact key a
            have ex := bxor a st (sm_of (by omega)) (sm_of (by omega))
            have hxl : a ^^^ st < 16 := Nat.xor_lt_two_pow (n := 4) (by omega) (by omega)
            generalize balR n r a = L at *
            generalize a ^^^ st = b at *
            obtain ⟨k, hk⟩ : ∃ k, Hid (L.length = k) := ⟨_, rfl⟩
            rw [hk.out] at hQ hlen ⊢
            by_cases hab : a < b
            · have g3 : (a : Int) < (b : Int) := by omega
              rw [if_pos hab] at HBS
              have HQA := Lib.hid (hQ.out.alloc (.cells #[.int .i64 (a : Int), .int .i64 (b : Int)] 58))
              have HLT := Lib.hid (fun kk (e : _ = some kk) => (hQ.out.lt kk e).1)
              have HPC : Hid (pairCells (castP (balR n r (a + 1))) = pairCells (castP L) ++ [.int .i64 (a : Int), .int .i64 (b : Int)]) := by unfold Hid; rw [HBS.out, castP_app, pairCells_append]; rfl
              have HLC : Hid ((balR n r (a + 1)).length = k + 1) := by unfold Hid; rw [HBS.out, List.length_append, hk.out]; rfl
              have HBA : Hid (Below wo.heap.size wo (wr.alloc (.cells #[.int .i64 (a : Int), .int .i64 (b : Int)] 58))) := hBo.out.alloc hwo _
              go_wp2_with (at_builtin; go_must (refine wpList_append_q _ rfl (.tmp 42) (.tmp 46) 59 rfl wo.heap.size 58 i0 _ 2 16 underR hi0 hz0 hz1 hz2 rfl (by decide) _ k (pairCells (castP L)) rfl HQA.out ⟨wr.heap.size, 0, none⟩ 1 1 [.int .i64 (a : Int), .int .i64 (b : Int)] rfl rfl (cells_newB _ _ _ _) (by simp [Value.oneCell']) (by unfold maxLen; omega) (by omega) (by simp; omega) ?_); intro v7 w7 hq7 hg7 ho7; have HQ7 : Hid (QRow w7 wo.heap.size 58 2 v7 (balR n r (a + 1)).length (pairCells (castP (balR n r (a + 1))))) := (by rw [HPC.out, HLC.out]; exact hq7); have HB7 : Hid (Below wo.heap.size wo w7) := Below.grown HBA.out hg7 (by simp; omega) (fun kk e => HLT.out kk e); clear hq7 hg7 ho7)
              exact ⟨⟨a + 1, by omega, int_eq (by omega), HQ7, HB7⟩, by simp [intOf]; omega⟩
            · have g3 : ¬ (a : Int) < (b : Int) := by omega
              rw [if_neg hab, List.append_nil] at HBS
              have HQ7 : Hid (QRow wr wo.heap.size 58 2 (.slice p9 k c9) (balR n r (a + 1)).length (pairCells (castP (balR n r (a + 1))))) := by rw [HBS.out, hk.out]; exact hQ
              go_wp2
              exact ⟨⟨a + 1, by omega, int_eq (by omega), HQ7, hBo⟩, by simp [intOf]; omega⟩
          · have g2 : ¬ (a : Int) < (n : Int) := by omega
            obtain rfl : n = a := by omega
            have HQF : Hid (QRow wr wo.heap.size 58 2 (.slice p9 h c9) h (pairCells (rowL (balM n) r h))) := by rw [HRW.out, ← hsl.out]; exact hQ
            have hwo2 := hwo
            rw [hsl.out]
            obtain ⟨xs, h1o, h2o, h5o⟩ := hS.out
            have HBW := Lib.hid (hB.out.trans (hBo.out.mono hUo))
            have hww : U.heap.size ≤ wr.heap.size := HBW.out.size
            have h1 := h1o.below hBo.out (fun k' hk' => (h1o.lt k' hk').2)
            have HDD := Lib.hid h5o
            have HNN : Hid (∀ r' x b, r' < r → xs[r']? = some x → x.ownBlock = some b → (Value.slice p9 h c9).ownBlock ≠ some b) := fun r' x b hr' hx hb e => by
              obtain ⟨p, c, e1, e2⟩ := h2o r' hr'
              rw [hx] at e1
              cases e1
              have h6 := (e2.lt b hb).2
              have h7 := (HQF.out.lt b e).1
              omega
            have H1A := Lib.hid (h1.alloc (.cells #[.slice p9 h c9] 59))
            have H2A : Hid (∀ r', r' < r → ∃ p c, xs[r']? = some (.slice p h c) ∧ QRow (wr.alloc (.cells #[.slice p9 h c9] 59)) U.heap.size 58 2 (.slice p h c) h (pairCells (rowL (balM n) r' h))) := fun r' hr' => by
              obtain ⟨p, c, e1, e2⟩ := h2o r' hr'
              exact ⟨p, c, e1, (e2.below hBo.out (fun k' hk' => (e2.lt k' hk').2)).alloc _⟩
            have HQA := Lib.hid ((HQF.out.mono hUo).alloc (.cells #[.slice p9 h c9] 59))
            have HLT := Lib.hid (fun kk (e : _ = some kk) => (h1.lt kk e).1)
            clear h1 h1o h2o h5o hQ
            go_wp2_with (first
              | (at_builtin; go_must (refine wpList_append_q _ rfl (.tmp 49) (.tmp 51) 22 rfl U.heap.size 59 i1 (.slice none 0 0) 1 24 underS hi1 hy0 hy1 hy2 rfl (by decide) _ r xs rfl H1A.out ⟨_, 0, none⟩ 1 1 [.slice p9 h c9] rfl rfl (cells_new1 _ _ _) (by simp [Value.oneCell']) (by unfold maxLen; omega) (by omega) (by simp; omega) ?_); intro v5 w5 hq5 hg5 ho5; have HR5 : Hid (SchR w5 U.heap.size v5 (r + 1) h (balM n)) := SchR.push H2A.out H1A.out HQA.out hg5 hq5 HDD.out HNN.out; have HB5 : Hid (Below U.heap.size U w5) := Below.grown (HBW.out.alloc hww _) hg5 (by simp; omega) (fun kk e => HLT.out kk e); have HT5 := Lib.hid (HT1.out w5 HB5.out); clear hq5 hg5 ho5)
              | (go_at_call 36; refine HT5.out.mono ?_; rintro e w6 ⟨rfl, hw6⟩; replace hw6 := hw6.symm; subst hw6; try dsimp only))
            exact ⟨⟨r + 1, by omega, int_eq (by omega), rfl, HR5, HB5⟩, by simp [intOf]; omega⟩
      · have g1 : ¬ (r : Int) < (n1 : Int) := by omega
        obtain rfl : n1 = r := by omega
        go_wp2
        refine bodyPost_ret (v := .tuple #[.slice p6 n1 c6, .int .i64 0]) (by simp [results, Try.f11, go_sem]) rfl ?_
        exact ⟨_, rfl, hS.out.mono HBX.out.size, HBX.out.trans (hB.out.mono HBX.out.size)⟩
  · go_upto_region 15 with (go_at_call 35; refine (HI.out _).mono ?_; rintro e w4 ⟨rfl, hw4⟩; replace hw4 := hw4.symm; subst hw4; try dsimp only)
    have HXN : Hid (BoxN ((w.alloc (.cells #[.int .i64 (n : Int)] 3)).alloc (.cells #[.int .i64 19] 3)) w.heap.size 3 #[.int .i64 (n : Int)]) := (BoxN.new rfl).alloc _
    have HXP : Hid (BoxN ((w.alloc (.cells #[.int .i64 (n : Int)] 3)).alloc (.cells #[.int .i64 19] 3)) (w.heap.size + 1) 3 #[.int .i64 19]) := BoxN.new (by simp)
    have HBX : Hid (Below w.heap.size w ((w.alloc (.cells #[.int .i64 (n : Int)] 3)).alloc (.cells #[.int .i64 19] 3))) := ((Below.refl _ _).alloc (Nat.le_refl _) _).alloc (by simp) _
    obtain ⟨bn, hbn⟩ : ∃ bn, Hid (bn = w.heap.size) := ⟨_, rfl⟩
    obtain ⟨bp, hbp⟩ : ∃ bp, Hid (bp = w.heap.size + 1) := ⟨_, rfl⟩
    rw [← hbn.out] at HXN
    rw [← hbp.out] at HXP
    rw [← hbp.out, ← hbn.out]
    generalize ((w.alloc (.cells #[.int .i64 (n : Int)] 3)).alloc (.cells #[.int .i64 19] 3)) = U at *
    have HCN : Hid (∀ W, Below U.heap.size U W → W.cell? ⟨bn, 0, none⟩ = some (.int .i64 (n : Int)) ∧ W.cell? ⟨bp, 0, none⟩ = some (.int .i64 19)) := fun W hW => ⟨(hW.cell (p := ⟨bn, 0, none⟩) HXN.out.lt).trans (HXN.out.cell 0), (hW.cell (p := ⟨bp, 0, none⟩) HXP.out.lt).trans (HXP.out.cell 0)⟩
    have HTI : Hid (∀ W, Below U.heap.size U W → ∀ r, r < n1 → Calls Try.prog 36 #[.int .i64 ((stepN n r : Nat) : Int), .pointer (some ⟨bn, 0, none⟩), .pointer (some ⟨bp, 0, none⟩)] W fun e w' => e = .returned (.int .i64 ((stepN n (r + 1) : Nat) : Int)) ∧ w' = W) := fun W hW r hr => by
      have h1 := times_any bn bp n (stepN n r) (polyN n) W (by omega) (by have := (HROW.out r hr).2.2; omega) (by rw [HPO.out]; decide) (HCN.out W hW).1 (by rw [HPO.out]; exact (HCN.out W hW).2)
      show Calls _ _ _ _ fun e w' => e = .returned (.int .i64 ((timN n (stepN n r) : Nat) : Int)) ∧ w' = W
      unfold timN
      exact h1
    clear HXN HXP
    go_loopw [6, 7, 8] (fun s6 s7 s8 wr => ∃ r : Nat, r ≤ n1 ∧ s7 = .int .i64 (r : Int) ∧ s8 = .int .i64 ((stepN n r : Nat) : Int) ∧ Hid (SchR wr U.heap.size s6 r h (balM n)) ∧ Hid (Below U.heap.size U wr)) (fun _ s7 _ _ => n1 - (intOf s7).toNat)
    case atStart => exact ⟨0, by omega, rfl, rfl, SchR.nil _ _ _ _, Below.refl _ _⟩
    case round =>
      obtain ⟨r, hr, rfl, rfl, hS, hB⟩ := hrel
      obtain ⟨p6, c6, rfl⟩ := hS.out.isSlice
      obtain ⟨wo, hwo⟩ : ∃ wo, Hid (wo = wr) := ⟨_, rfl⟩
      rw [← hwo.out] at hS hB ⊢
      clear hwo
      have hUo : U.heap.size ≤ wo.heap.size := hB.out.size
      have c1 := (HCN.out wo hB.out).1
      by_cases hrn : r < n1
      · have g1 : (r : Int) < (n1 : Int) := by omega
        have hst := (HROW.out r hrn).2.2
        have hsl := Lib.hid (HROW.out r hrn).1
        have HRW := Lib.hid (HRB.out r hrn)
        have HT1 := Lib.hid (fun W hW => HTI.out W hW r hrn)
        generalize hst2 : stepN n r = st at *
        have HST := Lib.hid hst2
        clear hst2
        go_upto_region 19 with (fail)
        go_loopw [9, 33] (fun s9 s33 wq => ∃ a : Nat, a ≤ n ∧ s33 = .int .i64 (a : Int) ∧ Hid (QRow wq wo.heap.size 58 2 s9 (balR n r a).length (pairCells (castP (balR n r a)))) ∧ Hid (Below wo.heap.size wo wq)) (fun _ s33 _ => n - (intOf s33).toNat)
        case atStart => exact ⟨0, by omega, rfl, QRow.nil _ _ _ _, Below.refl _ _⟩
        case round =>
          obtain ⟨a, ha, rfl, hQ, hBo⟩ := hrel
          obtain ⟨p9, c9, rfl⟩ := hQ.out.isSlice
          have hwo : wo.heap.size ≤ wr.heap.size := hBo.out.size
          by_cases han : a < n
          · have g2 : (a : Int) < (n : Int) := by omega
            have HBS : Hid (balR n r (a + 1) = balR n r a ++ (if a < a ^^^ st then [(a, a ^^^ st)] else [])) := by rw [← HST.out]; rfl
            have hlen : (balR n r a).length ≤ a := by
              have key : ∀ a, (balR n r a).length ≤ a := fun a => by
                induction a with
                | zero => exact Nat.le_refl _
                | succ a ih => unfold balR; rw [List.length_append]; split <;> simp <;> omega
              exact key a
            have ex := bxor a st (sm_of (by omega)) (sm_of (by omega))
            have hxl : a ^^^ st < 16 := Nat.xor_lt_two_pow (n := 4) (by omega) (by omega)
            generalize balR n r a = L at *
            generalize a ^^^ st = b at *
            obtain ⟨k, hk⟩ : ∃ k, Hid (L.length = k) := ⟨_, rfl⟩
            rw [hk.out] at hQ hlen ⊢
            by_cases hab : a < b
            · have g3 : (a : Int) < (b : Int) := by omega
              rw [if_pos hab] at HBS
              have HQA := Lib.hid (hQ.out.alloc (.cells #[.int .i64 (a : Int), .int .i64 (b : Int)] 58))
              have HLT := Lib.hid (fun kk (e : _ = some kk) => (hQ.out.lt kk e).1)
              have HPC : Hid (pairCells (castP (balR n r (a + 1))) = pairCells (castP L) ++ [.int .i64 (a : Int), .int .i64 (b : Int)]) := by unfold Hid; rw [HBS.out, castP_app, pairCells_append]; rfl
              have HLC : Hid ((balR n r (a + 1)).length = k + 1) := by unfold Hid; rw [HBS.out, List.length_append, hk.out]; rfl
              have HBA : Hid (Below wo.heap.size wo (wr.alloc (.cells #[.int .i64 (a : Int), .int .i64 (b : Int)] 58))) := hBo.out.alloc hwo _
              go_wp2_with (at_builtin; go_must (refine wpList_append_q _ rfl (.tmp 42) (.tmp 46) 59 rfl wo.heap.size 58 i0 _ 2 16 underR hi0 hz0 hz1 hz2 rfl (by decide) _ k (pairCells (castP L)) rfl HQA.out ⟨wr.heap.size, 0, none⟩ 1 1 [.int .i64 (a : Int), .int .i64 (b : Int)] rfl rfl (cells_newB _ _ _ _) (by simp [Value.oneCell']) (by unfold maxLen; omega) (by omega) (by simp; omega) ?_); intro v7 w7 hq7 hg7 ho7; have HQ7 : Hid (QRow w7 wo.heap.size 58 2 v7 (balR n r (a + 1)).length (pairCells (castP (balR n r (a + 1))))) := (by rw [HPC.out, HLC.out]; exact hq7); have HB7 : Hid (Below wo.heap.size wo w7) := Below.grown HBA.out hg7 (by simp; omega) (fun kk e => HLT.out kk e); clear hq7 hg7 ho7)
              exact ⟨⟨a + 1, by omega, int_eq (by omega), HQ7, HB7⟩, by simp [intOf]; omega⟩
            · have g3 : ¬ (a : Int) < (b : Int) := by omega
              rw [if_neg hab, List.append_nil] at HBS
              have HQ7 : Hid (QRow wr wo.heap.size 58 2 (.slice p9 k c9) (balR n r (a + 1)).length (pairCells (castP (balR n r (a + 1))))) := by rw [HBS.out, hk.out]; exact hQ
              go_wp2
              exact ⟨⟨a + 1, by omega, int_eq (by omega), HQ7, hBo⟩, by simp [intOf]; omega⟩
          · have g2 : ¬ (a : Int) < (n : Int) := by omega
            obtain rfl : n = a := by omega
            have HQF : Hid (QRow wr wo.heap.size 58 2 (.slice p9 h c9) h (pairCells (rowL (balM n) r h))) := by rw [HRW.out, ← hsl.out]; exact hQ
            have hwo2 := hwo
            rw [hsl.out]
            obtain ⟨xs, h1o, h2o, h5o⟩ := hS.out
            have HBW := Lib.hid (hB.out.trans (hBo.out.mono hUo))
            have hww : U.heap.size ≤ wr.heap.size := HBW.out.size
            have h1 := h1o.below hBo.out (fun k' hk' => (h1o.lt k' hk').2)
            have HDD := Lib.hid h5o
            have HNN : Hid (∀ r' x b, r' < r → xs[r']? = some x → x.ownBlock = some b → (Value.slice p9 h c9).ownBlock ≠ some b) := fun r' x b hr' hx hb e => by
              obtain ⟨p, c, e1, e2⟩ := h2o r' hr'
              rw [hx] at e1
              cases e1
              have h6 := (e2.lt b hb).2
              have h7 := (HQF.out.lt b e).1
              omega
            have H1A := Lib.hid (h1.alloc (.cells #[.slice p9 h c9] 59))
            have H2A : Hid (∀ r', r' < r → ∃ p c, xs[r']? = some (.slice p h c) ∧ QRow (wr.alloc (.cells #[.slice p9 h c9] 59)) U.heap.size 58 2 (.slice p h c) h (pairCells (rowL (balM n) r' h))) := fun r' hr' => by
              obtain ⟨p, c, e1, e2⟩ := h2o r' hr'
              exact ⟨p, c, e1, (e2.below hBo.out (fun k' hk' => (e2.lt k' hk').2)).alloc _⟩
            have HQA := Lib.hid ((HQF.out.mono hUo).alloc (.cells #[.slice p9 h c9] 59))
            have HLT := Lib.hid (fun kk (e : _ = some kk) => (h1.lt kk e).1)
            clear h1 h1o h2o h5o hQ
            go_wp2_with (first
              | (at_builtin; go_must (refine wpList_append_q _ rfl (.tmp 49) (.tmp 51) 22 rfl U.heap.size 59 i1 (.slice none 0 0) 1 24 underS hi1 hy0 hy1 hy2 rfl (by decide) _ r xs rfl H1A.out ⟨_, 0, none⟩ 1 1 [.slice p9 h c9] rfl rfl (cells_new1 _ _ _) (by simp [Value.oneCell']) (by unfold maxLen; omega) (by omega) (by simp; omega) ?_); intro v5 w5 hq5 hg5 ho5; have HR5 : Hid (SchR w5 U.heap.size v5 (r + 1) h (balM n)) := SchR.push H2A.out H1A.out HQA.out hg5 hq5 HDD.out HNN.out; have HB5 : Hid (Below U.heap.size U w5) := Below.grown (HBW.out.alloc hww _) hg5 (by simp; omega) (fun kk e => HLT.out kk e); have HT5 := Lib.hid (HT1.out w5 HB5.out); clear hq5 hg5 ho5)
              | (go_at_call 36; refine HT5.out.mono ?_; rintro e w6 ⟨rfl, hw6⟩; replace hw6 := hw6.symm; subst hw6; try dsimp only))
            exact ⟨⟨r + 1, by omega, int_eq (by omega), rfl, HR5, HB5⟩, by simp [intOf]; omega⟩
      · have g1 : ¬ (r : Int) < (n1 : Int) := by omega
        obtain rfl : n1 = r := by omega
        go_wp2
        refine bodyPost_ret (v := .tuple #[.slice p6 n1 c6, .int .i64 0]) (by simp [results, Try.f11, go_sem]) rfl ?_
        exact ⟨_, rfl, hS.out.mono HBX.out.size, HBX.out.trans (hB.out.mono HBX.out.size)⟩
end Go.Proofs.Ytocnhikohfkcaaa
namespace Go.Proofs.Ytocnhikohfkcaaa

/-- rounds of a rectangle -/
def sI (n : Nat) (m : Nat → Nat → Nat × Nat) : List (List I2) := (List.range (n - 1)).map fun r => rowL m r (n / 2)
theorem sI_len (n : Nat) (m : Nat → Nat → Nat × Nat) : (sI n m).length = n - 1 := by simp [sI]
def meetN (x : Nat) : List (Nat × Nat) → Nat
  | [] => 0
  | p :: d => if p.1 = x then p.2 else if p.2 = x then p.1 else meetN x d
theorem meet_cast (x : Nat) (d : List (Nat × Nat)) : meetZ (x : Int) (castP d) = ((meetN x d : Nat) : Int) := by
  induction d with
  | nil => rfl
  | cons p d ih =>
    show (if ((p.1 : Nat) : Int) = (x : Int) then ((p.2 : Nat) : Int) else if ((p.2 : Nat) : Int) = (x : Int) then ((p.1 : Nat) : Int) else meetZ (x : Int) (castP d)) = ((if p.1 = x then p.2 else if p.2 = x then p.1 else meetN x d : Nat) : Int)
    rw [ih]
    by_cases h1 : p.1 = x
    · rw [if_pos h1, if_pos (by omega)]
    · rw [if_neg h1, if_neg (by omega)]
      by_cases h2 : p.2 = x
      · rw [if_pos h2, if_pos (by omega)]
      · rw [if_neg h2, if_neg (by omega)]
def LB (n : Nat) : List (List (Nat × Nat)) := (List.range (n - 1)).map fun r => balR n r n
theorem sI_bal {n : Nat} (h : n = 4 ∨ n = 8 ∨ n = 16) : sI n (balM n) = (LB n).map castP := by
  unfold sI LB
  rw [List.map_map]
  apply List.map_congr_left
  intro r hr
  exact rowL_bal h (List.mem_range.1 hr)
theorem flat_cast (L : List (List (Nat × Nat))) : (L.map castP).flatten = castP L.flatten := by
  induction L with
  | nil => rfl
  | cons d L ih => rw [List.map_cons, List.flatten_cons, ih, List.flatten_cons, castP_app]
def codesP (n : Nat) (l : List (Nat × Nat)) : List Nat := l.map fun p => p.1 * n + p.2
def balB (n : Nat) : Bool := ((LB n).all fun d => decide (d.length = n / 2) && (d.all fun p => decide (p.1 < n) && decide (p.2 < n) && !decide (p.1 = p.2)) && noDup (d.flatMap endsN)) && noDup (codesP n ((LB n).flatten.flatMap bothN))
set_option maxRecDepth 100000 in
theorem balB_4 : balB 4 = true := by decide +kernel
set_option maxRecDepth 100000 in
theorem balB_8 : balB 8 = true := by decide +kernel
set_option maxRecDepth 100000 in
theorem balB_16 : balB 16 = true := by decide +kernel
theorem balB_yes {n : Nat} (h : n = 4 ∨ n = 8 ∨ n = 16) : balB n = true := by
  rcases h with rfl | rfl | rfl
  · exact balB_4
  · exact balB_8
  · exact balB_16
theorem bal_sch {n : Nat} (h : n = 4 ∨ n = 8 ∨ n = 16) : SchI n (sI n (balM n)) := by
  have hb := balB_yes h
  unfold balB at hb
  rw [Bool.and_eq_true, List.all_eq_true] at hb
  have hd : ∀ d ∈ sI n (balM n), ∃ e ∈ LB n, d = castP e := fun d hd => by
    rw [sI_bal h] at hd
    obtain ⟨e, he, rfl⟩ := List.mem_map.1 hd
    exact ⟨e, he, rfl⟩
  have key : ∀ e ∈ LB n, e.length = n / 2 ∧ (∀ p ∈ e, p.1 < n ∧ p.2 < n ∧ p.1 ≠ p.2) ∧ (e.flatMap endsN).Nodup := fun e he => by
    have h1 := hb.1 e he
    simp only [Bool.and_eq_true, decide_eq_true_eq, List.all_eq_true, Bool.not_eq_true', decide_eq_false_iff_not] at h1
    exact ⟨h1.1.1, fun p hp => ⟨(h1.1.2 p hp).1.1, (h1.1.2 p hp).1.2, (h1.1.2 p hp).2⟩, noDup_ok h1.2⟩
  refine ⟨sI_len n _, fun d hd' => ?_, fun d hd' p hp => ?_, fun d hd' => ?_, ?_⟩
  · obtain ⟨e, he, rfl⟩ := hd d hd'
    unfold castP
    rw [List.length_map]
    exact (key e he).1
  · obtain ⟨e, he, rfl⟩ := hd d hd'
    obtain ⟨q, hq, rfl⟩ := List.mem_map.1 hp
    have := (key e he).2.1 q hq
    simp only
    omega
  · obtain ⟨e, he, rfl⟩ := hd d hd'
    rw [ends_cast, nodup_castL]
    exact (key e he).2.2
  · rw [sI_bal h, flat_cast, both_cast, nodup_castP]
    exact nodup_of_map _ (noDup_ok hb.2)
/-- what follows what, in the balanced schedule -/
def cyN (n : Nat) : List (Nat × Nat) := (List.range (n - 1)).flatMap fun q => (List.range n).map fun x => (meetN x (balR n q n), meetN x (balR n ((q + 1) % (n - 1)) n))
theorem mt_bal {n : Nat} (h : n = 4 ∨ n = 8 ∨ n = 16) {r : Nat} (hr : r < n - 1) (x : Nat) : mt (sI n (balM n)) r x = meetN x (balR n r n) := by
  unfold mt
  rw [sI_bal h]
  unfold LB
  rw [List.map_map, List.getElem?_map, List.getElem?_range hr]
  show (meetZ (x : Int) (castP (balR n r n))).toNat = _
  rw [meet_cast]
  simp
theorem cy_bal {n : Nat} (h : n = 4 ∨ n = 8 ∨ n = 16) : cyL (sI n (balM n)) n (n - 1) 0 = cyN n := by
  unfold cyL cyN
  rw [show cyRow (sI n (balM n)) (n - 1) 0 = [] from rfl, List.append_nil]
  rw [List.flatMap_def, List.flatMap_def]
  congr 1
  apply List.map_congr_left
  intro q hq
  have hq' := List.mem_range.1 hq
  unfold cyRow
  apply List.map_congr_left
  intro x hx
  rw [mt_bal h hq', sI_len, mt_bal h (Nat.mod_lt _ (by omega))]
def carB (n : Nat) : Bool := noDup ((List.range n).map (fun j => j * n + j) ++ codesP n (cyN n)) && ((cyN n).all fun p => decide (p.1 < n) && decide (p.2 < n)) && decide ((cyN n).length + n = n * n)
set_option maxRecDepth 100000 in
theorem carB_4 : carB 4 = true := by decide +kernel
set_option maxRecDepth 100000 in
theorem carB_8 : carB 8 = true := by decide +kernel
set_option maxRecDepth 100000 in
theorem carB_16 : carB 16 = true := by decide +kernel
theorem count_one {l : List (Nat × Nat)} {p : Nat × Nat} (hn : l.Nodup) (hm : p ∈ l) : l.count p = 1 := by
  induction l with
  | nil => cases hm
  | cons q l ih =>
    rw [List.nodup_cons] at hn
    rw [List.count_cons]
    by_cases e : q = p
    · subst e
      rw [List.count_eq_zero_of_not_mem hn.1]; simp
    · rcases List.mem_cons.1 hm with h | h
      · exact absurd h.symm e
      · rw [ih hn.2 h]; simp [e]
theorem all_mem {l : List Nat} {N : Nat} (hn : l.Nodup) (hl : ∀ x ∈ l, x < N) (hL : l.length = N) {k : Nat} (hk : k < N) : k ∈ l := by
  by_cases hm : k ∈ l
  · exact hm
  · have hc : (k :: l).Nodup := List.nodup_cons.2 ⟨hm, hn⟩
    have := hc.length_le_of_subset (l₂ := List.range N) (fun x hx => by
      rcases List.mem_cons.1 hx with rfl | hx
      · exact List.mem_range.2 hk
      · exact List.mem_range.2 (hl x hx))
    simp at this
    omega
theorem bal_carry {n : Nat} (h : n = 4 ∨ n = 8 ∨ n = 16) : ∀ i k, i < n → k < n → i ≠ k → cyF (sI n (balM n)) n (sI n (balM n)).length 0 i k = 1 := fun i k hi hk hik => by
  have hc : carB n = true := by
    rcases h with rfl | rfl | rfl
    · exact carB_4
    · exact carB_8
    · exact carB_16
  unfold carB at hc
  simp only [Bool.and_eq_true, decide_eq_true_eq, List.all_eq_true] at hc
  obtain ⟨⟨h1, h2⟩, h3⟩ := hc
  have hnd := noDup_ok h1
  have hcn : (cyN n).Nodup := nodup_of_map _ (List.nodup_append.1 hnd).2.1
  unfold cyF
  rw [sI_len, cy_bal h]
  have hm := all_mem hnd (N := n * n) (fun x hx => by
    rcases List.mem_append.1 hx with h4 | h4
    · obtain ⟨j, hj, rfl⟩ := List.mem_map.1 h4
      exact key_bound (List.mem_range.1 hj) (List.mem_range.1 hj)
    · obtain ⟨p, hp, rfl⟩ := List.mem_map.1 h4
      exact key_bound (h2 p hp).1 (h2 p hp).2) (by
    unfold codesP
    rw [List.length_append, List.length_map, List.length_range, List.length_map]; omega) (key_bound hi hk)
  have hmm : (i, k) ∈ cyN n := by
    rcases List.mem_append.1 hm with h4 | h4
    · obtain ⟨j, hj, e⟩ := List.mem_map.1 h4
      have hj' := List.mem_range.1 hj
      have e1 : j * n + j = i * n + k := e
      have h5 : (j * n + j) / n = j := by rw [Nat.mul_comm, Nat.mul_add_div (by omega), Nat.div_eq_of_lt hj']; omega
      have h6 : (i * n + k) / n = i := by rw [Nat.mul_comm, Nat.mul_add_div (by omega), Nat.div_eq_of_lt hk]; omega
      rw [e1, h6] at h5
      subst h5
      omega
    · exact (prI_mem (fun p hp => (h2 p hp).2) hk).1 h4
  rw [count_one hcn hmm]
  rfl
end Go.Proofs.Ytocnhikohfkcaaa
namespace Go.Proofs.Ytocnhikohfkcaaa
open Go.RowKit Go.Shelf
attribute [local go_sem] Oper.semAt_some

theorem row_src2 {W : World} {base h c : Nat} {p : Option Addr} {l : List I2} (h1 : QRow W base 58 2 (.slice p h c) h (pairCells l)) (hl : l.length = h) : Src2 W p l := fun h0 => by
  have hp := QRow.pairs h1 hl.symm
  have hne : l ≠ [] := fun e => by rw [e] at h0; exact Nat.lt_irrefl 0 h0
  obtain ⟨b, o, e, hb, hc⟩ := hp hne
  exact ⟨b, o, e, hb, fun i hi => by have := hc i hi; rw [List.getElem?_eq_getElem hi, Option.getD_some] at this; exact this⟩
theorem SchR.srcS {W : World} {base c n1 n : Nat} {p : Option Addr} {m : Nat → Nat → Nat × Nat} (hn : n - 1 = n1) (H : SchR W base (.slice p n1 c) n1 (n / 2) m) : SrcS W p (sI n m) := by
  obtain ⟨xs, h1, h2, _⟩ := H
  intro h0
  rw [sI_len, hn] at h0
  obtain ⟨g, o, cap, e, hb1, hb2, _, _, hc, _⟩ := h1.at (by omega)
  cases e
  refine ⟨g, o, rfl, hb2, fun i hi => ?_⟩
  rw [sI_len, hn] at hi
  obtain ⟨q, d, h3, h4⟩ := h2 i hi
  have e1 : (sI n m)[i]'(by rw [sI_len, hn]; exact hi) = rowL m i (n / 2) := by unfold sI; rw [List.getElem_map, List.getElem_range]
  rw [e1, rowL_len]
  refine ⟨q, d, ?_, QRow.fits h4 |>.1, row_src2 h4 (rowL_len _ _ _)⟩
  have := hc i (by omega)
  rw [h3] at this
  exact this
theorem Circle_src (n n1 : Nat) (w : World) (h2 : 2 ≤ n) (h16 : n ≤ 16) (hev : n % 2 = 0) (hn : n - 1 = n1) :
    Calls Try.prog 10 #[.int .i64 (n : Int)] w fun e w' => (∃ p c, e = .returned (.tuple #[.slice p n1 c, .int .i64 0]) ∧ SrcS w' p (sI n (cir n))) ∧ Below w.heap.size w w' :=
  (Circle_ok n w h2 h16 hev).mono fun e w' ⟨v, e1, hs, hB⟩ => by
    rw [hn] at hs
    obtain ⟨p, c, rfl⟩ := hs.isSlice
    exact ⟨⟨p, c, e1, hs.srcS hn⟩, hB⟩
theorem RCircle_src (n n1 : Nat) (w : World) (h2 : 2 ≤ n) (h16 : n ≤ 16) (hev : n % 2 = 0) (hn : n - 1 = n1) :
    Calls Try.prog 14 #[.int .i64 (n : Int)] w fun e w' => (∃ p c, e = .returned (.slice p n1 c) ∧ SrcS w' p (sI n (cir n))) ∧ Below w.heap.size w w' :=
  (RCircle_ok n w h2 h16 hev).mono fun e w' ⟨v, e1, hs, hB⟩ => by
    rw [hn] at hs
    obtain ⟨p, c, rfl⟩ := hs.isSlice
    exact ⟨⟨p, c, e1, hs.srcS hn⟩, hB⟩
theorem Balanced_src (n n1 : Nat) (w : World) (hb : n = 4 ∨ n = 8 ∨ n = 16) (hn : n - 1 = n1) :
    Calls Try.prog 11 #[.int .i64 (n : Int)] w fun e w' => (∃ p c, e = .returned (.tuple #[.slice p n1 c, .int .i64 0]) ∧ SrcS w' p (sI n (balM n))) ∧ Below w.heap.size w w' :=
  (Balanced_ok n w hb).mono fun e w' ⟨v, e1, hs, hB⟩ => by
    rw [hn] at hs
    obtain ⟨p, c, rfl⟩ := hs.isSlice
    exact ⟨⟨p, c, e1, hs.srcS hn⟩, hB⟩
theorem sI_row (n : Nat) (m : Nat → Nat → Nat × Nat) : ∀ d ∈ sI n m, d.length = n / 2 := fun d hd => by
  obtain ⟨r, _, rfl⟩ := List.mem_map.1 hd
  exact rowL_len _ _ _
theorem same_yes (n n1 : Nat) (p q : Option Addr) (c d : Nat) (m : Nat → Nat → Nat × Nat) (w : World) (h16 : n ≤ 16) (hn : n - 1 = n1) (hS : SrcS w p (sI n m)) (hT : SrcS w q (sI n m)) :
    Calls Try.prog 13 #[.slice p n1 c, .slice q n1 d] w fun e w' => e = .returned (.bool true) ∧ Below w.heap.size w w' := by
  have h := same_any p q c d (sI n m) (sI n m) w (by rw [sI_len]; omega) (fun r hr => by rw [sI_row n m r hr]; omega) hS hT
  rw [sI_len, hn] at h
  exact h.mono fun e w' k => ⟨k.1.yes rfl, k.2⟩
theorem RCheck_yes (n n1 : Nat) (p : Option Addr) (c : Nat) (m : Nat → Nat → Nat × Nat) (w : World) (h2 : 2 ≤ n) (h16 : n ≤ 16) (hev : n % 2 = 0) (hn : n - 1 = n1) (hS : SrcS w p (sI n m)) (hP : SchI n (sI n m)) :
    Calls Try.prog 15 #[.int .i64 (n : Int), .slice p n1 c] w fun e w' => e = .returned (.int .i64 0) ∧ Below w.heap.size w w' := by
  have h := RCheck_in n p c (sI n m) w h2 h16 hev hS
  rw [sI_len, hn] at h
  exact h.mono fun e w' ⟨⟨v, e1, hv⟩, hB⟩ => by
    rcases hv with ⟨_, rfl⟩ | ⟨h, _⟩
    · exact ⟨e1, hB⟩
    · exact (h hP).elim
theorem RBal_src (n n1 : Nat) (p : Option Addr) (c : Nat) (w : World) (hb : n = 4 ∨ n = 8 ∨ n = 16) (hn : n - 1 = n1) (hS : SrcS w p (sI n (balM n))) :
    Calls Try.prog 16 #[.int .i64 (n : Int), .slice p n1 c] w fun e w' => e = .returned (.bool true) ∧ Below w.heap.size w w' := by
  have h := RBal_yes n p c (sI n (balM n)) w (by omega) (by omega) (by rw [sI_len]; omega) (by rw [sI_len]; omega) (fun d hd => by rw [sI_row n _ d hd]; omega) (bal_sch hb).rng hS (bal_carry hb)
  rw [sI_len, hn] at h
  exact h
set_option maxRecDepth 100000 in
theorem Circle_err (z : Int) (w : World) (h : ¬ EvP z) :
    Calls Try.prog 10 #[.int .i64 z] w fun e w' => e = .returned (.tuple #[.slice none 0 0, .int .i64 1]) ∧ w' = w := by
  have HI := Lib.hid (fun W => isRight_no z W h)
  clear h
  go_enter Try.func10, Try.ntmps10
  go_wp2_with (go_at_call 35; refine (HI.out _).mono ?_; rintro e w4 ⟨rfl, hw4⟩; replace hw4 := hw4.symm; subst hw4; try dsimp only)
  refine bodyPost_ret (v := .tuple #[.slice none 0 0, .int .i64 1]) (by simp [results, Try.f10, go_sem]) rfl ?_
  exact ⟨rfl, rfl⟩
set_option maxRecDepth 100000 in
theorem Balanced_err (z : Int) (w : World) (h : ¬ EvP z) :
    Calls Try.prog 11 #[.int .i64 z] w fun e w' => e = .returned (.tuple #[.slice none 0 0, .int .i64 1]) ∧ Below w.heap.size w w' := by
  have HI := Lib.hid (fun W => isRight_no z W h)
  have HB : Hid (Below w.heap.size w (w.alloc (.cells #[.int .i64 z] 3))) := (Below.refl _ _).alloc (Nat.le_refl _) _
  clear h
  go_enter Try.func11, Try.ntmps11
  go_wp2_with (go_at_call 35; refine (HI.out _).mono ?_; rintro e w4 ⟨rfl, hw4⟩; replace hw4 := hw4.symm; subst hw4; try dsimp only)
  refine bodyPost_ret (v := .tuple #[.slice none 0 0, .int .i64 1]) (by simp [results, Try.f11, go_sem]) rfl ?_
  exact ⟨rfl, HB.out⟩
end Go.Proofs.Ytocnhikohfkcaaa
