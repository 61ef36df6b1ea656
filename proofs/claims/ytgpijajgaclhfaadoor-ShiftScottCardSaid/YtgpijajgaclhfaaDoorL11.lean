/- A law's walk: ShiftScott. -/
import Derived.Test.YtgpijajgaclhfaaDoorG1120
set_option linter.unusedVariables false
set_option linter.unusedSimpArgs false
namespace Go.Proofs.YtgpijajgaclhfaaDoor
open Go.RowKit Go.Shelf

set_option maxRecDepth 100000 in
set_option maxHeartbeats 8000000 in
theorem law11 (a : Option Addr) (n cap : Nat) (ln : Nat → Nat) (r : Nat → Nat → Bool) (w : World) (hP : TabIn w a n cap ln r) (hT : Tab w) :
    Calls Tryd.prog 11 #[.slice a n cap] w fun e w' => e = .returned (.bool true) ∧ Below w.heap.size w w' := by
  have HTM := Lib.hid (tame_any a n cap ln r w hP)
  have HTB := Lib.hid hT
  clear hP hT
  go_enter Tryd.func11, Tryd.ntmps11
  go_upto_region 2 with (go_at_call 22; refine HTM.out.mono ?_; rintro e w1 ⟨p, k, c, R, rfl, hT1, hok, hB1⟩; have HT1 := Lib.hid hT1; have HOK := Lib.hid hok; have HB1 := Lib.hid hB1; clear hT1 hok hB1)
  clear HTM
  have hsz1 : w.heap.size ≤ w1.heap.size := HB1.out.size
  have hk12 := HOK.out.n12
  have hk1 := HOK.out.n1
  have HTT := Lib.hid (fun W (hW : Below w1.heap.size w1 W) => HT1.out.below hW (Nat.le_refl _))
  have HTW := Lib.hid (fun W (hW : Below w1.heap.size w1 W) => HTB.out.below (HB1.out.trans (hW.mono hsz1)) (Nat.le_refl _))
  have HR := Lib.hid (Below.refl w1.heap.size w1)
  by_cases h2 : HasTwo k R
  · skip
    by_cases h3 : HasThree k R
    · skip
      by_cases hW : Weak k R
      · skip
        have HH2 := Lib.hid h2
        have HH3 := Lib.hid h3
        have HH : Hid (HasTwo k R ∨ HasThree k R) := .inl h2
        go_upto_region 3 with (go_at_call 44; refine (pos_none p k c R _ HOK.out HH.out (HTW.out _ HR.out) (HTT.out _ HR.out)).mono ?_; rintro e w2 ⟨rfl, hB2⟩; have HB2 := Lib.hid hB2; clear hB2)
        clear h2 h3
        have hw2 : w1.heap.size ≤ w2.heap.size := HB2.out.size
        go_upto_region 4 with (go_at_call 25; refine (two_yes p k c R _ HOK.out HH2.out (HTW.out _ HB2.out) (HTT.out _ HB2.out)).mono ?_; rintro e w3 ⟨x, y, z, u, rfl, hth, hB3⟩; have HTH2 := Lib.hid hth; have HB23 := Lib.hid hB3; have HB3 := Lib.hid (HB2.out.trans (hB3.mono hw2)); clear hth hB3)
        have hw3 : w1.heap.size ≤ w3.heap.size := HB3.out.size
        have HX : Hid (BoxN (w3.alloc (.cells #[.int .i64 (x : Int), .int .i64 (y : Int), .int .i64 (z : Int), .int .i64 (u : Int)] 45)) w3.heap.size 45 #[.int .i64 (x : Int), .int .i64 (y : Int), .int .i64 (z : Int), .int .i64 (u : Int)]) := BoxN.new rfl
        have HB3a : Hid (Below w1.heap.size w1 (w3.alloc (.cells #[.int .i64 (x : Int), .int .i64 (y : Int), .int .i64 (z : Int), .int .i64 (u : Int)] 45))) := HB3.out.alloc hw3 _
        have HB2a : Hid (Below w2.heap.size w2 (w3.alloc (.cells #[.int .i64 (x : Int), .int .i64 (y : Int), .int .i64 (z : Int), .int .i64 (u : Int)] 45))) := HB23.out.alloc HB23.out.size _
        generalize w3.alloc (.cells #[.int .i64 (x : Int), .int .i64 (y : Int), .int .i64 (z : Int), .int .i64 (u : Int)] 45) = V at *
        obtain ⟨b7, hb7⟩ : ∃ b7, Hid (b7 = w3.heap.size) := ⟨_, rfl⟩
        rw [← hb7.out] at HX ⊢
        have hxV := HX.out.lt
        have hwV : w1.heap.size ≤ V.heap.size := HB3a.out.size
        go_upto_region 5 with (go_at_call 45; refine (three_yes p k c R _ HOK.out HH3.out (HTW.out _ HB3a.out) (HTT.out _ HB3a.out)).mono ?_; rintro e w4 ⟨x', y', z', u', rfl, hth, hB4⟩; have HTH3 := Lib.hid hth; have HX4 := Lib.hid (HX.out.below hB4 hxV); have HB24 := Lib.hid (HB2a.out.trans (hB4.mono HB2a.out.size)); have HB4 := Lib.hid (HB3a.out.trans (hB4.mono hwV)); clear hth hB4)
        have hw4 : w1.heap.size ≤ w4.heap.size := HB4.out.size
        have HY : Hid (BoxN (w4.alloc (.cells #[.int .i64 (x' : Int), .int .i64 (y' : Int), .int .i64 (z' : Int), .int .i64 (u' : Int)] 45)) w4.heap.size 45 #[.int .i64 (x' : Int), .int .i64 (y' : Int), .int .i64 (z' : Int), .int .i64 (u' : Int)]) := BoxN.new rfl
        have HX4a := Lib.hid (HX4.out.alloc (.cells #[.int .i64 (x' : Int), .int .i64 (y' : Int), .int .i64 (z' : Int), .int .i64 (u' : Int)] 45))
        have HB4a : Hid (Below w1.heap.size w1 (w4.alloc (.cells #[.int .i64 (x' : Int), .int .i64 (y' : Int), .int .i64 (z' : Int), .int .i64 (u' : Int)] 45))) := HB4.out.alloc hw4 _
        have HB24a : Hid (Below w2.heap.size w2 (w4.alloc (.cells #[.int .i64 (x' : Int), .int .i64 (y' : Int), .int .i64 (z' : Int), .int .i64 (u' : Int)] 45))) := HB24.out.alloc HB24.out.size _
        generalize w4.alloc (.cells #[.int .i64 (x' : Int), .int .i64 (y' : Int), .int .i64 (z' : Int), .int .i64 (u' : Int)] 45) = U at *
        obtain ⟨b10, hb10⟩ : ∃ b10, Hid (b10 = w4.heap.size) := ⟨_, rfl⟩
        rw [← hb10.out] at HY ⊢
        have hyU := HY.out.lt
        have hxU := HX4a.out.lt
        have hwU : w1.heap.size ≤ U.heap.size := HB4a.out.size
        clear HX HX4 HB3a HB2a HB23 hxV
        have HWK := Lib.hid hW
        obtain ⟨L, hL⟩ := sets_ex k R
        have HL := Lib.hid hL
        clear hL
        go_upto_region 6 with (go_at_call 46; refine (lev_some p k c R L _ HOK.out HWK.out HL.out (HTT.out _ HB4a.out)).mono ?_; rintro e w5 ⟨v5, rfl, hq5, hB5⟩; obtain ⟨p5, c5, rfl⟩ := hq5.isSlice; have HQ5 := Lib.hid hq5; have HX5 := Lib.hid (HX4a.out.below hB5 hxU); have HY5 := Lib.hid (HY.out.below hB5 hyU); have HB25 := Lib.hid (HB24a.out.trans (hB5.mono HB24a.out.size)); have HB5 := Lib.hid (HB4a.out.trans (hB5.mono hwU)); clear hq5 hB5)
        clear hW HX4a HY hxU hyU
        have hw5 : w1.heap.size ≤ w5.heap.size := HB5.out.size
        have hx5 := HX5.out.lt
        have hy5 := HY5.out.lt
        have d0 := HX5.out.cell 0
        have d1 := HX5.out.cell 1
        have d2 := HX5.out.cell 2
        have d3 := HX5.out.cell 3
        go_upto_region 9 with (first
          | (go_at_call 29; refine (pTT_yes p k c R x y z u _ HOK.out HTH2.out (HTT.out _ HB5.out)).mono ?_; rintro e w6 ⟨rfl, hB6⟩; have HQ6 := Lib.hid (HQ5.out.below hB6 (fun kk e => (HQ5.out.lt kk e).2)); have HY6 := Lib.hid (HY5.out.below hB6 hy5); have e0 := HY6.out.cell 0; have e1 := HY6.out.cell 1; have e2 := HY6.out.cell 2; have e3 := HY6.out.cell 3; have HB6 := Lib.hid (HB5.out.trans (hB6.mono hw5)); clear hB6)
          | (go_at_call 40; refine (pTO_yes p k c R x' y' z' u' _ HOK.out HTH3.out (HTT.out _ HB6.out)).mono ?_; rintro e w7 ⟨rfl, hB7⟩; have HQ7 := Lib.hid (HQ6.out.below hB7 (fun kk e => (HQ6.out.lt kk e).2)); have HB7 := Lib.hid (HB6.out.trans (hB7.mono HB6.out.size)); clear hB7))
        have HBG := Lib.hid HB7.out
        have HQG := Lib.hid HQ7.out
        generalize w7 = wG at *
        go_upto_region 11 with (fail)
        go_loopw [15, 17] (fun s15 s17 wr => ∃ (i : Nat) (b : Bool), i ≤ k ∧ s17 = .int .i64 (i : Int) ∧ s15 = .bool b ∧ Hid (GoS k R b (fun x y z => x < i ∨ (x = i ∧ (y < 0 ∨ (y = 0 ∧ z < 0))))) ∧ Hid (wr.heap = wG.heap ∧ wr = wG)) (fun _ s17 _ => k - (intOf s17).toNat)
        case atStart => exact ⟨0, true, by omega, rfl, rfl, GoS.start, rfl, rfl⟩
        case round =>
          obtain ⟨i, b, hi, rfl, rfl, hG, hw⟩ := hrel
          obtain ⟨_, hw⟩ := hw.out
          replace hw := hw.symm
          subst hw
          by_cases hik : i < k
          · have g1 : (i : Int) < (k : Int) := by omega
            have g1' : (0 : Int) ≤ (i : Int) := by omega
            go_upto_region 14 with (fail)
            go_loopw [15, 18] (fun s15 s18 wr => ∃ (j : Nat) (b : Bool), j ≤ k ∧ s18 = .int .i64 (j : Int) ∧ s15 = .bool b ∧ Hid (GoS k R b (fun x y z => x < i ∨ (x = i ∧ (y < j ∨ (y = j ∧ z < 0))))) ∧ Hid (wr.heap = wG.heap ∧ wr = wG)) (fun _ s18 _ => k - (intOf s18).toNat)
            case atStart => exact ⟨0, b, by omega, rfl, rfl, hG, rfl, rfl⟩
            case round =>
              clear hG
              obtain ⟨j, b, hj, rfl, rfl, hG, hw⟩ := hrel
              obtain ⟨_, hw⟩ := hw.out
              replace hw := hw.symm
              subst hw
              by_cases hjk : j < k
              · have g2 : (j : Int) < (k : Int) := by omega
                have g2' : (0 : Int) ≤ (j : Int) := by omega
                go_upto_region 17 with (fail)
                go_loopw [15, 19] (fun s15 s19 wr => ∃ (l : Nat) (b : Bool), l ≤ k ∧ s19 = .int .i64 (l : Int) ∧ s15 = .bool b ∧ Hid (GoS k R b (fun x y z => x < i ∨ (x = i ∧ (y < j ∨ (y = j ∧ z < l))))) ∧ Hid (wr.heap = wG.heap ∧ wr = wG)) (fun _ s19 _ => k - (intOf s19).toNat)
                case atStart => exact ⟨0, b, by omega, rfl, rfl, hG, rfl, rfl⟩
                case round =>
                  clear hG
                  obtain ⟨l, b, hl, rfl, rfl, hG, hw⟩ := hrel
                  obtain ⟨_, hw⟩ := hw.out
                  replace hw := hw.symm
                  subst hw
                  by_cases hlk : l < k
                  · have g3 : (l : Int) < (k : Int) := by omega
                    have H1 := Lib.hid (overlap_any p k c i j R wG (by omega) hik hjk (HTT.out _ HBG.out))
                    have H2 := Lib.hid (overlap_any p k c j l R wG (by omega) hjk hlk (HTT.out _ HBG.out))
                    have H3 := Lib.hid (overlap_any p k c i l R wG (by omega) hik hlk (HTT.out _ HBG.out))
                    have HNX : Hid ((Ovl R i j → Ovl R j l → i ≠ l → Ovl R i l) → GoS k R b (fun x y z => x < i ∨ (x = i ∧ (y < j ∨ (y = j ∧ z < l + 1))))) := fun h => hG.out.next h
                    have HI1 : Hid (ovB R i j = true ↔ Ovl R i j) := ovB_iff
                    have HI2 : Hid (ovB R j l = true ↔ Ovl R j l) := ovB_iff
                    have HI3 : Hid (ovB R i l = true ↔ Ovl R i l) := ovB_iff
                    generalize ovB R i j = u1 at *
                    generalize ovB R j l = u2 at *
                    generalize ovB R i l = u3 at *
                    clear hG
                    cases u1
                    · have HN := Lib.hid (HNX.out (fun h => absurd (HI1.out.2 h) (by simp)))
                      clear HNX H2 H3 HI1 HI2 HI3
                      go_wp2_with (first
                        | (go_at_call 48; refine H1.out.mono ?_; rintro e wA ⟨rfl, hwA⟩; replace hwA := hwA.symm; subst hwA; clear H1))
                      exact ⟨⟨l + 1, b, by omega, int_eq (by omega), rfl, HN, (by first | exact ⟨rfl, rfl⟩ | exact ⟨trivial, trivial⟩)⟩, by simp [intOf]; omega⟩
                    · cases u2
                      · have HN := Lib.hid (HNX.out (fun _ h => absurd (HI2.out.2 h) (by simp)))
                        clear HNX H3 HI1 HI2 HI3
                        go_wp2_with (first
                          | (go_at_call 48; refine H1.out.mono ?_; rintro e wA ⟨rfl, hwA⟩; replace hwA := hwA.symm; subst hwA; clear H1)
                          | (go_at_call 48; refine H2.out.mono ?_; rintro e wA ⟨rfl, hwA⟩; replace hwA := hwA.symm; subst hwA; clear H2))
                        exact ⟨⟨l + 1, b, by omega, int_eq (by omega), rfl, HN, (by first | exact ⟨rfl, rfl⟩ | exact ⟨trivial, trivial⟩)⟩, by simp [intOf]; omega⟩
                      · by_cases eil : i = l
                        · have q1 : ((i : Int) != (l : Int)) = false := by simp [eil]
                          have HN := Lib.hid (HNX.out (fun _ _ h => absurd eil h))
                          clear HNX H3 HI1 HI2 HI3 eil
                          go_wp2_with (first
                            | (go_at_call 48; refine H1.out.mono ?_; rintro e wA ⟨rfl, hwA⟩; replace hwA := hwA.symm; subst hwA; clear H1)
                            | (go_at_call 48; refine H2.out.mono ?_; rintro e wA ⟨rfl, hwA⟩; replace hwA := hwA.symm; subst hwA; clear H2))
                          exact ⟨⟨l + 1, b, by omega, int_eq (by omega), rfl, HN, (by first | exact ⟨rfl, rfl⟩ | exact ⟨trivial, trivial⟩)⟩, by simp [intOf]; omega⟩
                        · have q1 : ((i : Int) != (l : Int)) = true := by rw [bne_iff_ne]; omega
                          cases u3
                          · have HN : Hid (GoS k R false (fun x y z => x < i ∨ (x = i ∧ (y < j ∨ (y = j ∧ z < l + 1))))) := GoS.bad hik hjk hlk (HI1.out.1 rfl) (HI2.out.1 rfl) eil (fun h => absurd (HI3.out.2 h) (by simp))
                            clear HNX HI1 HI2 HI3 eil
                            go_wp2_with (first
                              | (go_at_call 48; refine H1.out.mono ?_; rintro e wA ⟨rfl, hwA⟩; replace hwA := hwA.symm; subst hwA; clear H1)
                              | (go_at_call 48; refine H2.out.mono ?_; rintro e wA ⟨rfl, hwA⟩; replace hwA := hwA.symm; subst hwA; clear H2)
                              | (go_at_call 48; refine H3.out.mono ?_; rintro e wA ⟨rfl, hwA⟩; replace hwA := hwA.symm; subst hwA; clear H3))
                            exact ⟨⟨l + 1, false, by omega, int_eq (by omega), rfl, HN, (by first | exact ⟨rfl, rfl⟩ | exact ⟨trivial, trivial⟩)⟩, by simp [intOf]; omega⟩
                          · have HN := Lib.hid (HNX.out (fun _ _ _ => HI3.out.1 rfl))
                            clear HNX HI1 HI2 HI3 eil
                            go_wp2_with (first
                              | (go_at_call 48; refine H1.out.mono ?_; rintro e wA ⟨rfl, hwA⟩; replace hwA := hwA.symm; subst hwA; clear H1)
                              | (go_at_call 48; refine H2.out.mono ?_; rintro e wA ⟨rfl, hwA⟩; replace hwA := hwA.symm; subst hwA; clear H2)
                              | (go_at_call 48; refine H3.out.mono ?_; rintro e wA ⟨rfl, hwA⟩; replace hwA := hwA.symm; subst hwA; clear H3))
                            exact ⟨⟨l + 1, b, by omega, int_eq (by omega), rfl, HN, (by first | exact ⟨rfl, rfl⟩ | exact ⟨trivial, trivial⟩)⟩, by simp [intOf]; omega⟩
                  · have g3 : ¬ (l : Int) < (k : Int) := by omega
                    obtain rfl : k = l := by omega
                    go_wp2
                    exact ⟨⟨j + 1, b, by omega, int_eq (by omega), rfl, hG.out.row1, (by first | exact ⟨rfl, rfl⟩ | exact ⟨trivial, trivial⟩)⟩, by simp [intOf]; omega⟩
              · have g2 : ¬ (j : Int) < (k : Int) := by omega
                obtain rfl : k = j := by omega
                go_wp2
                exact ⟨⟨i + 1, b, by omega, int_eq (by omega), rfl, hG.out.row2, (by first | exact ⟨rfl, rfl⟩ | exact ⟨trivial, trivial⟩)⟩, by simp [intOf]; omega⟩
          · have g1 : ¬ (i : Int) < (k : Int) := by omega
            obtain rfl : k = i := by omega
            have hdn := hG.out.done HOK.out.ord
            clear hG
            have hb : b = true := hdn.2 HWK.out
            subst hb
            have HHT : Hid (∀ x, x < k → lftS L (bef k R x) ≤ 12) := fun x hx => by have h1 := weak_le HOK.out.ord hk12 HWK.out HL.out _ x hx rfl; have h2 := cn_le (fun i => R i x) k; omega
            have HSG : Hid (SrcI wG p5 k (fun x => ((lftS L (bef k R x) : Nat) : Int))) := HQG.out.srcI (ivI_get _ k)
            have HRY := Lib.hid (pRep_yes p p5 k c k c5 R (fun x => ((lftS L (bef k R x) : Nat) : Int)) 0 wG HOK.out (weak_rep HOK.out.ord hk12 HWK.out HL.out (fun x _ => rfl)) (HTT.out _ HBG.out) HSG.out)
            have hwG : w1.heap.size ≤ wG.heap.size := HBG.out.size
            go_upto_region 27 with (go_at_call 42; refine HRY.out.mono ?_; rintro e wH ⟨rfl, hBH⟩; have HSH := Lib.hid (HSG.out.below hBH (Nat.le_refl _)); have HBH := Lib.hid (HBG.out.trans (hBH.mono hwG)); clear hBH)
            obtain ⟨hh, hhe⟩ : ∃ hh : Nat → Nat, ∀ x, hh x = lftS L (bef k R x) := ⟨_, fun _ => rfl⟩
            have HH1 : Hid (SrcI wH p5 k (fun x => ((hh x : Nat) : Int))) := by rw [show (fun x => ((hh x : Nat) : Int)) = (fun x => ((lftS L (bef k R x) : Nat) : Int)) from funext fun x => by rw [hhe]]; exact HSH.out
            have HH12 : Hid (∀ x, x < k → hh x ≤ 12) := fun x hx => by rw [hhe]; exact HHT.out x hx
            have HIT : Hid (∀ x, x < k → ∀ q, q ≤ hh x → ∃ y, y < k ∧ hh y = q) := fun x hx q hq => by
              rw [hhe] at hq
              obtain ⟨y, hy, e⟩ := height_hit HL.out hx hq
              exact ⟨y, hy, (hhe y).trans e⟩
            obtain ⟨hf1, hf2⟩ := HQG.out.fits
            have hf3 : (k : Int) ≤ (c5 : Int) := by omega
            clear hhe HSH HHT HRY HSG g1 hik hi hdn
            go_loopw [20, 21] (fun s20 s21 wr => ∃ i top : Nat, i ≤ k ∧ s21 = .int .i64 (i : Int) ∧ s20 = .int .i64 (top : Int) ∧ Hid (∃ x, x < k ∧ top ≤ hh x) ∧ Hid (wr.heap = wH.heap ∧ wr = wH)) (fun _ s21 _ => k - (intOf s21).toNat)
            case atStart => exact ⟨0, 0, by omega, rfl, rfl, ⟨0, by omega, Nat.zero_le _⟩, rfl, rfl⟩
            case round =>
              obtain ⟨i, top, hi, rfl, rfl, hTop, hw⟩ := hrel
              obtain ⟨_, hw⟩ := hw.out
              replace hw := hw.symm
              subst hw
              obtain ⟨x0, hx0, htop⟩ := hTop.out
              have htp : top ≤ 12 := by have := HH12.out x0 hx0; omega
              by_cases hik : i < k
              · have g1 : (i : Int) < (k : Int) := by omega
                have g2 : (0 : Int) ≤ (i : Int) := by omega
                obtain ⟨b5, o5, rfl, hb5, h1⟩ := HH1.out (by omega)
                have ko : Hid (o5 + i * 1 = o5 + i) := by unfold Hid; omega
                have k1 : wH.cell? ⟨b5, o5 + i, none⟩ = some (.int .i64 (hh i : Int)) := h1 i hik
                have hi12 := HH12.out i hik
                have HN : Hid (∃ x, x < k ∧ max top (hh i) ≤ hh x) := by
                  by_cases e : hh i ≤ top
                  · exact ⟨x0, hx0, by omega⟩
                  · exact ⟨i, hik, by omega⟩
                clear h1 hTop htop
                generalize hh i = hi' at *
                go_wp2
                exact ⟨⟨i + 1, max top hi', by omega, int_eq (by omega), int_eq (by omega), HN, (by first | exact ⟨rfl, rfl⟩ | exact ⟨trivial, trivial⟩)⟩, by simp [intOf]; omega⟩
              · have g1 : ¬ (i : Int) < (k : Int) := by omega
                obtain rfl : k = i := by omega
                go_upto_region 31 with (fail)
                go_loopw [22] (fun s22 wr => ∃ q : Nat, q ≤ top + 1 ∧ s22 = .int .i64 (q : Int) ∧ Hid (wr.heap = wH.heap ∧ wr = wH)) (fun s22 _ => top + 1 - (intOf s22).toNat)
                case atStart => exact ⟨0, by omega, rfl, rfl, rfl⟩
                case round =>
                  obtain ⟨q, hq, rfl, hw⟩ := hrel
                  obtain ⟨_, hw⟩ := hw.out
                  replace hw := hw.symm
                  subst hw
                  by_cases hqt : q ≤ top
                  · have g3 : (q : Int) ≤ (top : Int) := by omega
                    have HYQ := Lib.hid (HIT.out x0 hx0 q (by omega))
                    go_upto_region 35 with (fail)
                    go_loopw [23, 24] (fun s23 s24 wr => ∃ (j : Nat) (b : Bool), j ≤ k ∧ s24 = .int .i64 (j : Int) ∧ s23 = .bool b ∧ Hid (b = true ∨ ∀ x, x < j → hh x ≠ q) ∧ Hid (wr.heap = wH.heap ∧ wr = wH)) (fun _ s24 _ => k - (intOf s24).toNat)
                    case atStart => exact ⟨0, false, by omega, rfl, rfl, .inr (fun x h => by omega), rfl, rfl⟩
                    case round =>
                      obtain ⟨j, b, hj, rfl, rfl, hS, hw⟩ := hrel
                      obtain ⟨_, hw⟩ := hw.out
                      replace hw := hw.symm
                      subst hw
                      by_cases hjk : j < k
                      · have g4 : (j : Int) < (k : Int) := by omega
                        have g5 : (0 : Int) ≤ (j : Int) := by omega
                        obtain ⟨b5, o5, rfl, hb5, h1⟩ := HH1.out (by omega)
                        have k1 : wH.cell? ⟨b5, o5 + j, none⟩ = some (.int .i64 (hh j : Int)) := h1 j hjk
                        clear h1
                        cases b
                        · have HO : Hid (∀ x, x < j → hh x ≠ q) := hS.out.resolve_left (by simp)
                          by_cases e : hh j = q
                          · have q1 : ((hh j : Int) == (q : Int)) = true := by rw [e]; simp
                            go_wp2
                            exact ⟨⟨j + 1, true, by omega, int_eq (by omega), rfl, .inl rfl, (by first | exact ⟨rfl, rfl⟩ | exact ⟨trivial, trivial⟩)⟩, by simp [intOf]; omega⟩
                          · have q1 : ((hh j : Int) == (q : Int)) = false := by rw [beq_eq_false_iff_ne]; omega
                            go_wp2
                            exact ⟨⟨j + 1, false, by omega, int_eq (by omega), rfl, .inr (fun x hx => (Nat.lt_or_ge x j).elim (fun h => HO.out x h) (fun h => (show j = x by omega) ▸ e)), (by first | exact ⟨rfl, rfl⟩ | exact ⟨trivial, trivial⟩)⟩, by simp [intOf]; omega⟩
                        · go_wp2
                          exact ⟨⟨j + 1, true, by omega, int_eq (by omega), rfl, .inl rfl, (by first | exact ⟨rfl, rfl⟩ | exact ⟨trivial, trivial⟩)⟩, by simp [intOf]; omega⟩
                      · have g4 : ¬ (j : Int) < (k : Int) := by omega
                        have hb : b = true := hS.out.resolve_right (fun h => by obtain ⟨y, hy, e⟩ := HYQ.out; exact h y (by omega) e)
                        subst hb
                        go_wp2
                        exact ⟨⟨q + 1, by omega, int_eq (by omega), (by first | exact ⟨rfl, rfl⟩ | exact ⟨trivial, trivial⟩)⟩, by simp [intOf]; omega⟩
                  · have g3 : ¬ (q : Int) ≤ (top : Int) := by omega
                    go_wp2_with (go_at_call 17; refine (awake_any _ (HTW.out _ HBH.out)).mono ?_; rintro e w9 ⟨rfl, hB9⟩; have HB9 := Lib.hid (HBH.out.trans (hB9.mono HBH.out.size)); clear hB9)
                    go_ret
                    exact ⟨rfl, HB1.out.trans (HB9.out.mono hsz1)⟩
      · skip
        have HH2 := Lib.hid h2
        have HH3 := Lib.hid h3
        have HH : Hid (HasTwo k R ∨ HasThree k R) := .inl h2
        go_upto_region 3 with (go_at_call 44; refine (pos_none p k c R _ HOK.out HH.out (HTW.out _ HR.out) (HTT.out _ HR.out)).mono ?_; rintro e w2 ⟨rfl, hB2⟩; have HB2 := Lib.hid hB2; clear hB2)
        clear h2 h3
        have hw2 : w1.heap.size ≤ w2.heap.size := HB2.out.size
        go_upto_region 4 with (go_at_call 25; refine (two_yes p k c R _ HOK.out HH2.out (HTW.out _ HB2.out) (HTT.out _ HB2.out)).mono ?_; rintro e w3 ⟨x, y, z, u, rfl, hth, hB3⟩; have HTH2 := Lib.hid hth; have HB23 := Lib.hid hB3; have HB3 := Lib.hid (HB2.out.trans (hB3.mono hw2)); clear hth hB3)
        have hw3 : w1.heap.size ≤ w3.heap.size := HB3.out.size
        have HX : Hid (BoxN (w3.alloc (.cells #[.int .i64 (x : Int), .int .i64 (y : Int), .int .i64 (z : Int), .int .i64 (u : Int)] 45)) w3.heap.size 45 #[.int .i64 (x : Int), .int .i64 (y : Int), .int .i64 (z : Int), .int .i64 (u : Int)]) := BoxN.new rfl
        have HB3a : Hid (Below w1.heap.size w1 (w3.alloc (.cells #[.int .i64 (x : Int), .int .i64 (y : Int), .int .i64 (z : Int), .int .i64 (u : Int)] 45))) := HB3.out.alloc hw3 _
        have HB2a : Hid (Below w2.heap.size w2 (w3.alloc (.cells #[.int .i64 (x : Int), .int .i64 (y : Int), .int .i64 (z : Int), .int .i64 (u : Int)] 45))) := HB23.out.alloc HB23.out.size _
        generalize w3.alloc (.cells #[.int .i64 (x : Int), .int .i64 (y : Int), .int .i64 (z : Int), .int .i64 (u : Int)] 45) = V at *
        obtain ⟨b7, hb7⟩ : ∃ b7, Hid (b7 = w3.heap.size) := ⟨_, rfl⟩
        rw [← hb7.out] at HX ⊢
        have hxV := HX.out.lt
        have hwV : w1.heap.size ≤ V.heap.size := HB3a.out.size
        go_upto_region 5 with (go_at_call 45; refine (three_yes p k c R _ HOK.out HH3.out (HTW.out _ HB3a.out) (HTT.out _ HB3a.out)).mono ?_; rintro e w4 ⟨x', y', z', u', rfl, hth, hB4⟩; have HTH3 := Lib.hid hth; have HX4 := Lib.hid (HX.out.below hB4 hxV); have HB24 := Lib.hid (HB2a.out.trans (hB4.mono HB2a.out.size)); have HB4 := Lib.hid (HB3a.out.trans (hB4.mono hwV)); clear hth hB4)
        have hw4 : w1.heap.size ≤ w4.heap.size := HB4.out.size
        have HY : Hid (BoxN (w4.alloc (.cells #[.int .i64 (x' : Int), .int .i64 (y' : Int), .int .i64 (z' : Int), .int .i64 (u' : Int)] 45)) w4.heap.size 45 #[.int .i64 (x' : Int), .int .i64 (y' : Int), .int .i64 (z' : Int), .int .i64 (u' : Int)]) := BoxN.new rfl
        have HX4a := Lib.hid (HX4.out.alloc (.cells #[.int .i64 (x' : Int), .int .i64 (y' : Int), .int .i64 (z' : Int), .int .i64 (u' : Int)] 45))
        have HB4a : Hid (Below w1.heap.size w1 (w4.alloc (.cells #[.int .i64 (x' : Int), .int .i64 (y' : Int), .int .i64 (z' : Int), .int .i64 (u' : Int)] 45))) := HB4.out.alloc hw4 _
        have HB24a : Hid (Below w2.heap.size w2 (w4.alloc (.cells #[.int .i64 (x' : Int), .int .i64 (y' : Int), .int .i64 (z' : Int), .int .i64 (u' : Int)] 45))) := HB24.out.alloc HB24.out.size _
        generalize w4.alloc (.cells #[.int .i64 (x' : Int), .int .i64 (y' : Int), .int .i64 (z' : Int), .int .i64 (u' : Int)] 45) = U at *
        obtain ⟨b10, hb10⟩ : ∃ b10, Hid (b10 = w4.heap.size) := ⟨_, rfl⟩
        rw [← hb10.out] at HY ⊢
        have hyU := HY.out.lt
        have hxU := HX4a.out.lt
        have hwU : w1.heap.size ≤ U.heap.size := HB4a.out.size
        clear HX HX4 HB3a HB2a HB23 hxV
        have HWK := Lib.hid hW
        go_upto_region 6 with (go_at_call 46; refine (lev_none p k c R _ HOK.out HWK.out (HTT.out _ HB4a.out)).mono ?_; rintro e w5 ⟨rfl, hB5⟩; have HX5 := Lib.hid (HX4a.out.below hB5 hxU); have HY5 := Lib.hid (HY.out.below hB5 hyU); have HB25 := Lib.hid (HB24a.out.trans (hB5.mono HB24a.out.size)); have HB5 := Lib.hid (HB4a.out.trans (hB5.mono hwU)); clear hB5)
        clear hW HX4a HY hxU hyU
        have hw5 : w1.heap.size ≤ w5.heap.size := HB5.out.size
        have hx5 := HX5.out.lt
        have hy5 := HY5.out.lt
        have d0 := HX5.out.cell 0
        have d1 := HX5.out.cell 1
        have d2 := HX5.out.cell 2
        have d3 := HX5.out.cell 3
        go_upto_region 9 with (first
          | (go_at_call 29; refine (pTT_yes p k c R x y z u _ HOK.out HTH2.out (HTT.out _ HB5.out)).mono ?_; rintro e w6 ⟨rfl, hB6⟩; have HY6 := Lib.hid (HY5.out.below hB6 hy5); have e0 := HY6.out.cell 0; have e1 := HY6.out.cell 1; have e2 := HY6.out.cell 2; have e3 := HY6.out.cell 3; have HB6 := Lib.hid (HB5.out.trans (hB6.mono hw5)); clear hB6)
          | (go_at_call 40; refine (pTO_yes p k c R x' y' z' u' _ HOK.out HTH3.out (HTT.out _ HB6.out)).mono ?_; rintro e w7 ⟨rfl, hB7⟩; have HB7 := Lib.hid (HB6.out.trans (hB7.mono HB6.out.size)); clear hB7))
        have HBG := Lib.hid HB7.out
        generalize w7 = wG at *
        go_upto_region 11 with (fail)
        go_loopw [15, 17] (fun s15 s17 wr => ∃ (i : Nat) (b : Bool), i ≤ k ∧ s17 = .int .i64 (i : Int) ∧ s15 = .bool b ∧ Hid (GoS k R b (fun x y z => x < i ∨ (x = i ∧ (y < 0 ∨ (y = 0 ∧ z < 0))))) ∧ Hid (wr.heap = wG.heap ∧ wr = wG)) (fun _ s17 _ => k - (intOf s17).toNat)
        case atStart => exact ⟨0, true, by omega, rfl, rfl, GoS.start, rfl, rfl⟩
        case round =>
          obtain ⟨i, b, hi, rfl, rfl, hG, hw⟩ := hrel
          obtain ⟨_, hw⟩ := hw.out
          replace hw := hw.symm
          subst hw
          by_cases hik : i < k
          · have g1 : (i : Int) < (k : Int) := by omega
            have g1' : (0 : Int) ≤ (i : Int) := by omega
            go_upto_region 14 with (fail)
            go_loopw [15, 18] (fun s15 s18 wr => ∃ (j : Nat) (b : Bool), j ≤ k ∧ s18 = .int .i64 (j : Int) ∧ s15 = .bool b ∧ Hid (GoS k R b (fun x y z => x < i ∨ (x = i ∧ (y < j ∨ (y = j ∧ z < 0))))) ∧ Hid (wr.heap = wG.heap ∧ wr = wG)) (fun _ s18 _ => k - (intOf s18).toNat)
            case atStart => exact ⟨0, b, by omega, rfl, rfl, hG, rfl, rfl⟩
            case round =>
              clear hG
              obtain ⟨j, b, hj, rfl, rfl, hG, hw⟩ := hrel
              obtain ⟨_, hw⟩ := hw.out
              replace hw := hw.symm
              subst hw
              by_cases hjk : j < k
              · have g2 : (j : Int) < (k : Int) := by omega
                have g2' : (0 : Int) ≤ (j : Int) := by omega
                go_upto_region 17 with (fail)
                go_loopw [15, 19] (fun s15 s19 wr => ∃ (l : Nat) (b : Bool), l ≤ k ∧ s19 = .int .i64 (l : Int) ∧ s15 = .bool b ∧ Hid (GoS k R b (fun x y z => x < i ∨ (x = i ∧ (y < j ∨ (y = j ∧ z < l))))) ∧ Hid (wr.heap = wG.heap ∧ wr = wG)) (fun _ s19 _ => k - (intOf s19).toNat)
                case atStart => exact ⟨0, b, by omega, rfl, rfl, hG, rfl, rfl⟩
                case round =>
                  clear hG
                  obtain ⟨l, b, hl, rfl, rfl, hG, hw⟩ := hrel
                  obtain ⟨_, hw⟩ := hw.out
                  replace hw := hw.symm
                  subst hw
                  by_cases hlk : l < k
                  · have g3 : (l : Int) < (k : Int) := by omega
                    have H1 := Lib.hid (overlap_any p k c i j R wG (by omega) hik hjk (HTT.out _ HBG.out))
                    have H2 := Lib.hid (overlap_any p k c j l R wG (by omega) hjk hlk (HTT.out _ HBG.out))
                    have H3 := Lib.hid (overlap_any p k c i l R wG (by omega) hik hlk (HTT.out _ HBG.out))
                    have HNX : Hid ((Ovl R i j → Ovl R j l → i ≠ l → Ovl R i l) → GoS k R b (fun x y z => x < i ∨ (x = i ∧ (y < j ∨ (y = j ∧ z < l + 1))))) := fun h => hG.out.next h
                    have HI1 : Hid (ovB R i j = true ↔ Ovl R i j) := ovB_iff
                    have HI2 : Hid (ovB R j l = true ↔ Ovl R j l) := ovB_iff
                    have HI3 : Hid (ovB R i l = true ↔ Ovl R i l) := ovB_iff
                    generalize ovB R i j = u1 at *
                    generalize ovB R j l = u2 at *
                    generalize ovB R i l = u3 at *
                    clear hG
                    cases u1
                    · have HN := Lib.hid (HNX.out (fun h => absurd (HI1.out.2 h) (by simp)))
                      clear HNX H2 H3 HI1 HI2 HI3
                      go_wp2_with (first
                        | (go_at_call 48; refine H1.out.mono ?_; rintro e wA ⟨rfl, hwA⟩; replace hwA := hwA.symm; subst hwA; clear H1))
                      exact ⟨⟨l + 1, b, by omega, int_eq (by omega), rfl, HN, (by first | exact ⟨rfl, rfl⟩ | exact ⟨trivial, trivial⟩)⟩, by simp [intOf]; omega⟩
                    · cases u2
                      · have HN := Lib.hid (HNX.out (fun _ h => absurd (HI2.out.2 h) (by simp)))
                        clear HNX H3 HI1 HI2 HI3
                        go_wp2_with (first
                          | (go_at_call 48; refine H1.out.mono ?_; rintro e wA ⟨rfl, hwA⟩; replace hwA := hwA.symm; subst hwA; clear H1)
                          | (go_at_call 48; refine H2.out.mono ?_; rintro e wA ⟨rfl, hwA⟩; replace hwA := hwA.symm; subst hwA; clear H2))
                        exact ⟨⟨l + 1, b, by omega, int_eq (by omega), rfl, HN, (by first | exact ⟨rfl, rfl⟩ | exact ⟨trivial, trivial⟩)⟩, by simp [intOf]; omega⟩
                      · by_cases eil : i = l
                        · have q1 : ((i : Int) != (l : Int)) = false := by simp [eil]
                          have HN := Lib.hid (HNX.out (fun _ _ h => absurd eil h))
                          clear HNX H3 HI1 HI2 HI3 eil
                          go_wp2_with (first
                            | (go_at_call 48; refine H1.out.mono ?_; rintro e wA ⟨rfl, hwA⟩; replace hwA := hwA.symm; subst hwA; clear H1)
                            | (go_at_call 48; refine H2.out.mono ?_; rintro e wA ⟨rfl, hwA⟩; replace hwA := hwA.symm; subst hwA; clear H2))
                          exact ⟨⟨l + 1, b, by omega, int_eq (by omega), rfl, HN, (by first | exact ⟨rfl, rfl⟩ | exact ⟨trivial, trivial⟩)⟩, by simp [intOf]; omega⟩
                        · have q1 : ((i : Int) != (l : Int)) = true := by rw [bne_iff_ne]; omega
                          cases u3
                          · have HN : Hid (GoS k R false (fun x y z => x < i ∨ (x = i ∧ (y < j ∨ (y = j ∧ z < l + 1))))) := GoS.bad hik hjk hlk (HI1.out.1 rfl) (HI2.out.1 rfl) eil (fun h => absurd (HI3.out.2 h) (by simp))
                            clear HNX HI1 HI2 HI3 eil
                            go_wp2_with (first
                              | (go_at_call 48; refine H1.out.mono ?_; rintro e wA ⟨rfl, hwA⟩; replace hwA := hwA.symm; subst hwA; clear H1)
                              | (go_at_call 48; refine H2.out.mono ?_; rintro e wA ⟨rfl, hwA⟩; replace hwA := hwA.symm; subst hwA; clear H2)
                              | (go_at_call 48; refine H3.out.mono ?_; rintro e wA ⟨rfl, hwA⟩; replace hwA := hwA.symm; subst hwA; clear H3))
                            exact ⟨⟨l + 1, false, by omega, int_eq (by omega), rfl, HN, (by first | exact ⟨rfl, rfl⟩ | exact ⟨trivial, trivial⟩)⟩, by simp [intOf]; omega⟩
                          · have HN := Lib.hid (HNX.out (fun _ _ _ => HI3.out.1 rfl))
                            clear HNX HI1 HI2 HI3 eil
                            go_wp2_with (first
                              | (go_at_call 48; refine H1.out.mono ?_; rintro e wA ⟨rfl, hwA⟩; replace hwA := hwA.symm; subst hwA; clear H1)
                              | (go_at_call 48; refine H2.out.mono ?_; rintro e wA ⟨rfl, hwA⟩; replace hwA := hwA.symm; subst hwA; clear H2)
                              | (go_at_call 48; refine H3.out.mono ?_; rintro e wA ⟨rfl, hwA⟩; replace hwA := hwA.symm; subst hwA; clear H3))
                            exact ⟨⟨l + 1, b, by omega, int_eq (by omega), rfl, HN, (by first | exact ⟨rfl, rfl⟩ | exact ⟨trivial, trivial⟩)⟩, by simp [intOf]; omega⟩
                  · have g3 : ¬ (l : Int) < (k : Int) := by omega
                    obtain rfl : k = l := by omega
                    go_wp2
                    exact ⟨⟨j + 1, b, by omega, int_eq (by omega), rfl, hG.out.row1, (by first | exact ⟨rfl, rfl⟩ | exact ⟨trivial, trivial⟩)⟩, by simp [intOf]; omega⟩
              · have g2 : ¬ (j : Int) < (k : Int) := by omega
                obtain rfl : k = j := by omega
                go_wp2
                exact ⟨⟨i + 1, b, by omega, int_eq (by omega), rfl, hG.out.row2, (by first | exact ⟨rfl, rfl⟩ | exact ⟨trivial, trivial⟩)⟩, by simp [intOf]; omega⟩
          · have g1 : ¬ (i : Int) < (k : Int) := by omega
            obtain rfl : k = i := by omega
            have hdn := hG.out.done HOK.out.ord
            clear hG
            have hb : b = false := bfalse (fun e => HWK.out (hdn.1 e))
            subst hb
            go_wp2_with (go_at_call 17; refine (awake_any _ (HTW.out _ HBG.out)).mono ?_; rintro e w9 ⟨rfl, hB9⟩; have HB9 := Lib.hid (HBG.out.trans (hB9.mono HBG.out.size)); clear hB9)
            go_ret
            exact ⟨rfl, HB1.out.trans (HB9.out.mono hsz1)⟩
    · skip
      by_cases hW : Weak k R
      · skip
        have HH2 := Lib.hid h2
        have HH3 := Lib.hid h3
        have HH : Hid (HasTwo k R ∨ HasThree k R) := .inl h2
        go_upto_region 3 with (go_at_call 44; refine (pos_none p k c R _ HOK.out HH.out (HTW.out _ HR.out) (HTT.out _ HR.out)).mono ?_; rintro e w2 ⟨rfl, hB2⟩; have HB2 := Lib.hid hB2; clear hB2)
        clear h2 h3
        have hw2 : w1.heap.size ≤ w2.heap.size := HB2.out.size
        go_upto_region 4 with (go_at_call 25; refine (two_yes p k c R _ HOK.out HH2.out (HTW.out _ HB2.out) (HTT.out _ HB2.out)).mono ?_; rintro e w3 ⟨x, y, z, u, rfl, hth, hB3⟩; have HTH2 := Lib.hid hth; have HB23 := Lib.hid hB3; have HB3 := Lib.hid (HB2.out.trans (hB3.mono hw2)); clear hth hB3)
        have hw3 : w1.heap.size ≤ w3.heap.size := HB3.out.size
        have HX : Hid (BoxN (w3.alloc (.cells #[.int .i64 (x : Int), .int .i64 (y : Int), .int .i64 (z : Int), .int .i64 (u : Int)] 45)) w3.heap.size 45 #[.int .i64 (x : Int), .int .i64 (y : Int), .int .i64 (z : Int), .int .i64 (u : Int)]) := BoxN.new rfl
        have HB3a : Hid (Below w1.heap.size w1 (w3.alloc (.cells #[.int .i64 (x : Int), .int .i64 (y : Int), .int .i64 (z : Int), .int .i64 (u : Int)] 45))) := HB3.out.alloc hw3 _
        have HB2a : Hid (Below w2.heap.size w2 (w3.alloc (.cells #[.int .i64 (x : Int), .int .i64 (y : Int), .int .i64 (z : Int), .int .i64 (u : Int)] 45))) := HB23.out.alloc HB23.out.size _
        generalize w3.alloc (.cells #[.int .i64 (x : Int), .int .i64 (y : Int), .int .i64 (z : Int), .int .i64 (u : Int)] 45) = V at *
        obtain ⟨b7, hb7⟩ : ∃ b7, Hid (b7 = w3.heap.size) := ⟨_, rfl⟩
        rw [← hb7.out] at HX ⊢
        have hxV := HX.out.lt
        have hwV : w1.heap.size ≤ V.heap.size := HB3a.out.size
        go_upto_region 5 with (go_at_call 45; refine (three_no p k c R _ HOK.out HH3.out (HTW.out _ HB3a.out) (HTT.out _ HB3a.out)).mono ?_; rintro e w4 ⟨rfl, hB4⟩; have HX4 := Lib.hid (HX.out.below hB4 hxV); have HB24 := Lib.hid (HB2a.out.trans (hB4.mono HB2a.out.size)); have HB4 := Lib.hid (HB3a.out.trans (hB4.mono hwV)); clear hB4)
        have hw4 : w1.heap.size ≤ w4.heap.size := HB4.out.size
        have HY : Hid (BoxN (w4.alloc (.cells #[.int .i64 0, .int .i64 0, .int .i64 0, .int .i64 0] 45)) w4.heap.size 45 #[.int .i64 0, .int .i64 0, .int .i64 0, .int .i64 0]) := BoxN.new rfl
        have HX4a := Lib.hid (HX4.out.alloc (.cells #[.int .i64 0, .int .i64 0, .int .i64 0, .int .i64 0] 45))
        have HB4a : Hid (Below w1.heap.size w1 (w4.alloc (.cells #[.int .i64 0, .int .i64 0, .int .i64 0, .int .i64 0] 45))) := HB4.out.alloc hw4 _
        have HB24a : Hid (Below w2.heap.size w2 (w4.alloc (.cells #[.int .i64 0, .int .i64 0, .int .i64 0, .int .i64 0] 45))) := HB24.out.alloc HB24.out.size _
        generalize w4.alloc (.cells #[.int .i64 0, .int .i64 0, .int .i64 0, .int .i64 0] 45) = U at *
        obtain ⟨b10, hb10⟩ : ∃ b10, Hid (b10 = w4.heap.size) := ⟨_, rfl⟩
        rw [← hb10.out] at HY ⊢
        have hyU := HY.out.lt
        have hxU := HX4a.out.lt
        have hwU : w1.heap.size ≤ U.heap.size := HB4a.out.size
        clear HX HX4 HB3a HB2a HB23 hxV
        have HWK := Lib.hid hW
        obtain ⟨L, hL⟩ := sets_ex k R
        have HL := Lib.hid hL
        clear hL
        go_upto_region 6 with (go_at_call 46; refine (lev_some p k c R L _ HOK.out HWK.out HL.out (HTT.out _ HB4a.out)).mono ?_; rintro e w5 ⟨v5, rfl, hq5, hB5⟩; obtain ⟨p5, c5, rfl⟩ := hq5.isSlice; have HQ5 := Lib.hid hq5; have HX5 := Lib.hid (HX4a.out.below hB5 hxU); have HY5 := Lib.hid (HY.out.below hB5 hyU); have HB25 := Lib.hid (HB24a.out.trans (hB5.mono HB24a.out.size)); have HB5 := Lib.hid (HB4a.out.trans (hB5.mono hwU)); clear hq5 hB5)
        clear hW HX4a HY hxU hyU
        have hw5 : w1.heap.size ≤ w5.heap.size := HB5.out.size
        have hx5 := HX5.out.lt
        have hy5 := HY5.out.lt
        have d0 := HX5.out.cell 0
        have d1 := HX5.out.cell 1
        have d2 := HX5.out.cell 2
        have d3 := HX5.out.cell 3
        go_upto_region 9 with (go_at_call 29; refine (pTT_yes p k c R x y z u _ HOK.out HTH2.out (HTT.out _ HB5.out)).mono ?_; rintro e w6 ⟨rfl, hB6⟩; have HQ6 := Lib.hid (HQ5.out.below hB6 (fun kk e => (HQ5.out.lt kk e).2)); have HY6 := Lib.hid (HY5.out.below hB6 hy5); have e0 := HY6.out.cell 0; have e1 := HY6.out.cell 1; have e2 := HY6.out.cell 2; have e3 := HY6.out.cell 3; have HB6 := Lib.hid (HB5.out.trans (hB6.mono hw5)); clear hB6)
        have HBG := Lib.hid HB6.out
        have HQG := Lib.hid HQ6.out
        generalize w6 = wG at *
        go_upto_region 11 with (fail)
        go_loopw [15, 17] (fun s15 s17 wr => ∃ (i : Nat) (b : Bool), i ≤ k ∧ s17 = .int .i64 (i : Int) ∧ s15 = .bool b ∧ Hid (GoS k R b (fun x y z => x < i ∨ (x = i ∧ (y < 0 ∨ (y = 0 ∧ z < 0))))) ∧ Hid (wr.heap = wG.heap ∧ wr = wG)) (fun _ s17 _ => k - (intOf s17).toNat)
        case atStart => exact ⟨0, true, by omega, rfl, rfl, GoS.start, rfl, rfl⟩
        case round =>
          obtain ⟨i, b, hi, rfl, rfl, hG, hw⟩ := hrel
          obtain ⟨_, hw⟩ := hw.out
          replace hw := hw.symm
          subst hw
          by_cases hik : i < k
          · have g1 : (i : Int) < (k : Int) := by omega
            have g1' : (0 : Int) ≤ (i : Int) := by omega
            go_upto_region 14 with (fail)
            go_loopw [15, 18] (fun s15 s18 wr => ∃ (j : Nat) (b : Bool), j ≤ k ∧ s18 = .int .i64 (j : Int) ∧ s15 = .bool b ∧ Hid (GoS k R b (fun x y z => x < i ∨ (x = i ∧ (y < j ∨ (y = j ∧ z < 0))))) ∧ Hid (wr.heap = wG.heap ∧ wr = wG)) (fun _ s18 _ => k - (intOf s18).toNat)
            case atStart => exact ⟨0, b, by omega, rfl, rfl, hG, rfl, rfl⟩
            case round =>
              clear hG
              obtain ⟨j, b, hj, rfl, rfl, hG, hw⟩ := hrel
              obtain ⟨_, hw⟩ := hw.out
              replace hw := hw.symm
              subst hw
              by_cases hjk : j < k
              · have g2 : (j : Int) < (k : Int) := by omega
                have g2' : (0 : Int) ≤ (j : Int) := by omega
                go_upto_region 17 with (fail)
                go_loopw [15, 19] (fun s15 s19 wr => ∃ (l : Nat) (b : Bool), l ≤ k ∧ s19 = .int .i64 (l : Int) ∧ s15 = .bool b ∧ Hid (GoS k R b (fun x y z => x < i ∨ (x = i ∧ (y < j ∨ (y = j ∧ z < l))))) ∧ Hid (wr.heap = wG.heap ∧ wr = wG)) (fun _ s19 _ => k - (intOf s19).toNat)
                case atStart => exact ⟨0, b, by omega, rfl, rfl, hG, rfl, rfl⟩
                case round =>
                  clear hG
                  obtain ⟨l, b, hl, rfl, rfl, hG, hw⟩ := hrel
                  obtain ⟨_, hw⟩ := hw.out
                  replace hw := hw.symm
                  subst hw
                  by_cases hlk : l < k
                  · have g3 : (l : Int) < (k : Int) := by omega
                    have H1 := Lib.hid (overlap_any p k c i j R wG (by omega) hik hjk (HTT.out _ HBG.out))
                    have H2 := Lib.hid (overlap_any p k c j l R wG (by omega) hjk hlk (HTT.out _ HBG.out))
                    have H3 := Lib.hid (overlap_any p k c i l R wG (by omega) hik hlk (HTT.out _ HBG.out))
                    have HNX : Hid ((Ovl R i j → Ovl R j l → i ≠ l → Ovl R i l) → GoS k R b (fun x y z => x < i ∨ (x = i ∧ (y < j ∨ (y = j ∧ z < l + 1))))) := fun h => hG.out.next h
                    have HI1 : Hid (ovB R i j = true ↔ Ovl R i j) := ovB_iff
                    have HI2 : Hid (ovB R j l = true ↔ Ovl R j l) := ovB_iff
                    have HI3 : Hid (ovB R i l = true ↔ Ovl R i l) := ovB_iff
                    generalize ovB R i j = u1 at *
                    generalize ovB R j l = u2 at *
                    generalize ovB R i l = u3 at *
                    clear hG
                    cases u1
                    · have HN := Lib.hid (HNX.out (fun h => absurd (HI1.out.2 h) (by simp)))
                      clear HNX H2 H3 HI1 HI2 HI3
                      go_wp2_with (first
                        | (go_at_call 48; refine H1.out.mono ?_; rintro e wA ⟨rfl, hwA⟩; replace hwA := hwA.symm; subst hwA; clear H1))
                      exact ⟨⟨l + 1, b, by omega, int_eq (by omega), rfl, HN, (by first | exact ⟨rfl, rfl⟩ | exact ⟨trivial, trivial⟩)⟩, by simp [intOf]; omega⟩
                    · cases u2
                      · have HN := Lib.hid (HNX.out (fun _ h => absurd (HI2.out.2 h) (by simp)))
                        clear HNX H3 HI1 HI2 HI3
                        go_wp2_with (first
                          | (go_at_call 48; refine H1.out.mono ?_; rintro e wA ⟨rfl, hwA⟩; replace hwA := hwA.symm; subst hwA; clear H1)
                          | (go_at_call 48; refine H2.out.mono ?_; rintro e wA ⟨rfl, hwA⟩; replace hwA := hwA.symm; subst hwA; clear H2))
                        exact ⟨⟨l + 1, b, by omega, int_eq (by omega), rfl, HN, (by first | exact ⟨rfl, rfl⟩ | exact ⟨trivial, trivial⟩)⟩, by simp [intOf]; omega⟩
                      · by_cases eil : i = l
                        · have q1 : ((i : Int) != (l : Int)) = false := by simp [eil]
                          have HN := Lib.hid (HNX.out (fun _ _ h => absurd eil h))
                          clear HNX H3 HI1 HI2 HI3 eil
                          go_wp2_with (first
                            | (go_at_call 48; refine H1.out.mono ?_; rintro e wA ⟨rfl, hwA⟩; replace hwA := hwA.symm; subst hwA; clear H1)
                            | (go_at_call 48; refine H2.out.mono ?_; rintro e wA ⟨rfl, hwA⟩; replace hwA := hwA.symm; subst hwA; clear H2))
                          exact ⟨⟨l + 1, b, by omega, int_eq (by omega), rfl, HN, (by first | exact ⟨rfl, rfl⟩ | exact ⟨trivial, trivial⟩)⟩, by simp [intOf]; omega⟩
                        · have q1 : ((i : Int) != (l : Int)) = true := by rw [bne_iff_ne]; omega
                          cases u3
                          · have HN : Hid (GoS k R false (fun x y z => x < i ∨ (x = i ∧ (y < j ∨ (y = j ∧ z < l + 1))))) := GoS.bad hik hjk hlk (HI1.out.1 rfl) (HI2.out.1 rfl) eil (fun h => absurd (HI3.out.2 h) (by simp))
                            clear HNX HI1 HI2 HI3 eil
                            go_wp2_with (first
                              | (go_at_call 48; refine H1.out.mono ?_; rintro e wA ⟨rfl, hwA⟩; replace hwA := hwA.symm; subst hwA; clear H1)
                              | (go_at_call 48; refine H2.out.mono ?_; rintro e wA ⟨rfl, hwA⟩; replace hwA := hwA.symm; subst hwA; clear H2)
                              | (go_at_call 48; refine H3.out.mono ?_; rintro e wA ⟨rfl, hwA⟩; replace hwA := hwA.symm; subst hwA; clear H3))
                            exact ⟨⟨l + 1, false, by omega, int_eq (by omega), rfl, HN, (by first | exact ⟨rfl, rfl⟩ | exact ⟨trivial, trivial⟩)⟩, by simp [intOf]; omega⟩
                          · have HN := Lib.hid (HNX.out (fun _ _ _ => HI3.out.1 rfl))
                            clear HNX HI1 HI2 HI3 eil
                            go_wp2_with (first
                              | (go_at_call 48; refine H1.out.mono ?_; rintro e wA ⟨rfl, hwA⟩; replace hwA := hwA.symm; subst hwA; clear H1)
                              | (go_at_call 48; refine H2.out.mono ?_; rintro e wA ⟨rfl, hwA⟩; replace hwA := hwA.symm; subst hwA; clear H2)
                              | (go_at_call 48; refine H3.out.mono ?_; rintro e wA ⟨rfl, hwA⟩; replace hwA := hwA.symm; subst hwA; clear H3))
                            exact ⟨⟨l + 1, b, by omega, int_eq (by omega), rfl, HN, (by first | exact ⟨rfl, rfl⟩ | exact ⟨trivial, trivial⟩)⟩, by simp [intOf]; omega⟩
                  · have g3 : ¬ (l : Int) < (k : Int) := by omega
                    obtain rfl : k = l := by omega
                    go_wp2
                    exact ⟨⟨j + 1, b, by omega, int_eq (by omega), rfl, hG.out.row1, (by first | exact ⟨rfl, rfl⟩ | exact ⟨trivial, trivial⟩)⟩, by simp [intOf]; omega⟩
              · have g2 : ¬ (j : Int) < (k : Int) := by omega
                obtain rfl : k = j := by omega
                go_wp2
                exact ⟨⟨i + 1, b, by omega, int_eq (by omega), rfl, hG.out.row2, (by first | exact ⟨rfl, rfl⟩ | exact ⟨trivial, trivial⟩)⟩, by simp [intOf]; omega⟩
          · have g1 : ¬ (i : Int) < (k : Int) := by omega
            obtain rfl : k = i := by omega
            have hdn := hG.out.done HOK.out.ord
            clear hG
            have hb : b = true := hdn.2 HWK.out
            subst hb
            have HHT : Hid (∀ x, x < k → lftS L (bef k R x) ≤ 12) := fun x hx => by have h1 := weak_le HOK.out.ord hk12 HWK.out HL.out _ x hx rfl; have h2 := cn_le (fun i => R i x) k; omega
            have HSG : Hid (SrcI wG p5 k (fun x => ((lftS L (bef k R x) : Nat) : Int))) := HQG.out.srcI (ivI_get _ k)
            have HRY := Lib.hid (pRep_yes p p5 k c k c5 R (fun x => ((lftS L (bef k R x) : Nat) : Int)) 0 wG HOK.out (weak_rep HOK.out.ord hk12 HWK.out HL.out (fun x _ => rfl)) (HTT.out _ HBG.out) HSG.out)
            have hwG : w1.heap.size ≤ wG.heap.size := HBG.out.size
            go_upto_region 27 with (go_at_call 42; refine HRY.out.mono ?_; rintro e wH ⟨rfl, hBH⟩; have HSH := Lib.hid (HSG.out.below hBH (Nat.le_refl _)); have HBH := Lib.hid (HBG.out.trans (hBH.mono hwG)); clear hBH)
            obtain ⟨hh, hhe⟩ : ∃ hh : Nat → Nat, ∀ x, hh x = lftS L (bef k R x) := ⟨_, fun _ => rfl⟩
            have HH1 : Hid (SrcI wH p5 k (fun x => ((hh x : Nat) : Int))) := by rw [show (fun x => ((hh x : Nat) : Int)) = (fun x => ((lftS L (bef k R x) : Nat) : Int)) from funext fun x => by rw [hhe]]; exact HSH.out
            have HH12 : Hid (∀ x, x < k → hh x ≤ 12) := fun x hx => by rw [hhe]; exact HHT.out x hx
            have HIT : Hid (∀ x, x < k → ∀ q, q ≤ hh x → ∃ y, y < k ∧ hh y = q) := fun x hx q hq => by
              rw [hhe] at hq
              obtain ⟨y, hy, e⟩ := height_hit HL.out hx hq
              exact ⟨y, hy, (hhe y).trans e⟩
            obtain ⟨hf1, hf2⟩ := HQG.out.fits
            have hf3 : (k : Int) ≤ (c5 : Int) := by omega
            clear hhe HSH HHT HRY HSG g1 hik hi hdn
            go_loopw [20, 21] (fun s20 s21 wr => ∃ i top : Nat, i ≤ k ∧ s21 = .int .i64 (i : Int) ∧ s20 = .int .i64 (top : Int) ∧ Hid (∃ x, x < k ∧ top ≤ hh x) ∧ Hid (wr.heap = wH.heap ∧ wr = wH)) (fun _ s21 _ => k - (intOf s21).toNat)
            case atStart => exact ⟨0, 0, by omega, rfl, rfl, ⟨0, by omega, Nat.zero_le _⟩, rfl, rfl⟩
            case round =>
              obtain ⟨i, top, hi, rfl, rfl, hTop, hw⟩ := hrel
              obtain ⟨_, hw⟩ := hw.out
              replace hw := hw.symm
              subst hw
              obtain ⟨x0, hx0, htop⟩ := hTop.out
              have htp : top ≤ 12 := by have := HH12.out x0 hx0; omega
              by_cases hik : i < k
              · have g1 : (i : Int) < (k : Int) := by omega
                have g2 : (0 : Int) ≤ (i : Int) := by omega
                obtain ⟨b5, o5, rfl, hb5, h1⟩ := HH1.out (by omega)
                have ko : Hid (o5 + i * 1 = o5 + i) := by unfold Hid; omega
                have k1 : wH.cell? ⟨b5, o5 + i, none⟩ = some (.int .i64 (hh i : Int)) := h1 i hik
                have hi12 := HH12.out i hik
                have HN : Hid (∃ x, x < k ∧ max top (hh i) ≤ hh x) := by
                  by_cases e : hh i ≤ top
                  · exact ⟨x0, hx0, by omega⟩
                  · exact ⟨i, hik, by omega⟩
                clear h1 hTop htop
                generalize hh i = hi' at *
                go_wp2
                exact ⟨⟨i + 1, max top hi', by omega, int_eq (by omega), int_eq (by omega), HN, (by first | exact ⟨rfl, rfl⟩ | exact ⟨trivial, trivial⟩)⟩, by simp [intOf]; omega⟩
              · have g1 : ¬ (i : Int) < (k : Int) := by omega
                obtain rfl : k = i := by omega
                go_upto_region 31 with (fail)
                go_loopw [22] (fun s22 wr => ∃ q : Nat, q ≤ top + 1 ∧ s22 = .int .i64 (q : Int) ∧ Hid (wr.heap = wH.heap ∧ wr = wH)) (fun s22 _ => top + 1 - (intOf s22).toNat)
                case atStart => exact ⟨0, by omega, rfl, rfl, rfl⟩
                case round =>
                  obtain ⟨q, hq, rfl, hw⟩ := hrel
                  obtain ⟨_, hw⟩ := hw.out
                  replace hw := hw.symm
                  subst hw
                  by_cases hqt : q ≤ top
                  · have g3 : (q : Int) ≤ (top : Int) := by omega
                    have HYQ := Lib.hid (HIT.out x0 hx0 q (by omega))
                    go_upto_region 35 with (fail)
                    go_loopw [23, 24] (fun s23 s24 wr => ∃ (j : Nat) (b : Bool), j ≤ k ∧ s24 = .int .i64 (j : Int) ∧ s23 = .bool b ∧ Hid (b = true ∨ ∀ x, x < j → hh x ≠ q) ∧ Hid (wr.heap = wH.heap ∧ wr = wH)) (fun _ s24 _ => k - (intOf s24).toNat)
                    case atStart => exact ⟨0, false, by omega, rfl, rfl, .inr (fun x h => by omega), rfl, rfl⟩
                    case round =>
                      obtain ⟨j, b, hj, rfl, rfl, hS, hw⟩ := hrel
                      obtain ⟨_, hw⟩ := hw.out
                      replace hw := hw.symm
                      subst hw
                      by_cases hjk : j < k
                      · have g4 : (j : Int) < (k : Int) := by omega
                        have g5 : (0 : Int) ≤ (j : Int) := by omega
                        obtain ⟨b5, o5, rfl, hb5, h1⟩ := HH1.out (by omega)
                        have k1 : wH.cell? ⟨b5, o5 + j, none⟩ = some (.int .i64 (hh j : Int)) := h1 j hjk
                        clear h1
                        cases b
                        · have HO : Hid (∀ x, x < j → hh x ≠ q) := hS.out.resolve_left (by simp)
                          by_cases e : hh j = q
                          · have q1 : ((hh j : Int) == (q : Int)) = true := by rw [e]; simp
                            go_wp2
                            exact ⟨⟨j + 1, true, by omega, int_eq (by omega), rfl, .inl rfl, (by first | exact ⟨rfl, rfl⟩ | exact ⟨trivial, trivial⟩)⟩, by simp [intOf]; omega⟩
                          · have q1 : ((hh j : Int) == (q : Int)) = false := by rw [beq_eq_false_iff_ne]; omega
                            go_wp2
                            exact ⟨⟨j + 1, false, by omega, int_eq (by omega), rfl, .inr (fun x hx => (Nat.lt_or_ge x j).elim (fun h => HO.out x h) (fun h => (show j = x by omega) ▸ e)), (by first | exact ⟨rfl, rfl⟩ | exact ⟨trivial, trivial⟩)⟩, by simp [intOf]; omega⟩
                        · go_wp2
                          exact ⟨⟨j + 1, true, by omega, int_eq (by omega), rfl, .inl rfl, (by first | exact ⟨rfl, rfl⟩ | exact ⟨trivial, trivial⟩)⟩, by simp [intOf]; omega⟩
                      · have g4 : ¬ (j : Int) < (k : Int) := by omega
                        have hb : b = true := hS.out.resolve_right (fun h => by obtain ⟨y, hy, e⟩ := HYQ.out; exact h y (by omega) e)
                        subst hb
                        go_wp2
                        exact ⟨⟨q + 1, by omega, int_eq (by omega), (by first | exact ⟨rfl, rfl⟩ | exact ⟨trivial, trivial⟩)⟩, by simp [intOf]; omega⟩
                  · have g3 : ¬ (q : Int) ≤ (top : Int) := by omega
                    go_wp2_with (go_at_call 17; refine (awake_any _ (HTW.out _ HBH.out)).mono ?_; rintro e w9 ⟨rfl, hB9⟩; have HB9 := Lib.hid (HBH.out.trans (hB9.mono HBH.out.size)); clear hB9)
                    go_ret
                    exact ⟨rfl, HB1.out.trans (HB9.out.mono hsz1)⟩
      · skip
        have HH2 := Lib.hid h2
        have HH3 := Lib.hid h3
        have HH : Hid (HasTwo k R ∨ HasThree k R) := .inl h2
        go_upto_region 3 with (go_at_call 44; refine (pos_none p k c R _ HOK.out HH.out (HTW.out _ HR.out) (HTT.out _ HR.out)).mono ?_; rintro e w2 ⟨rfl, hB2⟩; have HB2 := Lib.hid hB2; clear hB2)
        clear h2 h3
        have hw2 : w1.heap.size ≤ w2.heap.size := HB2.out.size
        go_upto_region 4 with (go_at_call 25; refine (two_yes p k c R _ HOK.out HH2.out (HTW.out _ HB2.out) (HTT.out _ HB2.out)).mono ?_; rintro e w3 ⟨x, y, z, u, rfl, hth, hB3⟩; have HTH2 := Lib.hid hth; have HB23 := Lib.hid hB3; have HB3 := Lib.hid (HB2.out.trans (hB3.mono hw2)); clear hth hB3)
        have hw3 : w1.heap.size ≤ w3.heap.size := HB3.out.size
        have HX : Hid (BoxN (w3.alloc (.cells #[.int .i64 (x : Int), .int .i64 (y : Int), .int .i64 (z : Int), .int .i64 (u : Int)] 45)) w3.heap.size 45 #[.int .i64 (x : Int), .int .i64 (y : Int), .int .i64 (z : Int), .int .i64 (u : Int)]) := BoxN.new rfl
        have HB3a : Hid (Below w1.heap.size w1 (w3.alloc (.cells #[.int .i64 (x : Int), .int .i64 (y : Int), .int .i64 (z : Int), .int .i64 (u : Int)] 45))) := HB3.out.alloc hw3 _
        have HB2a : Hid (Below w2.heap.size w2 (w3.alloc (.cells #[.int .i64 (x : Int), .int .i64 (y : Int), .int .i64 (z : Int), .int .i64 (u : Int)] 45))) := HB23.out.alloc HB23.out.size _
        generalize w3.alloc (.cells #[.int .i64 (x : Int), .int .i64 (y : Int), .int .i64 (z : Int), .int .i64 (u : Int)] 45) = V at *
        obtain ⟨b7, hb7⟩ : ∃ b7, Hid (b7 = w3.heap.size) := ⟨_, rfl⟩
        rw [← hb7.out] at HX ⊢
        have hxV := HX.out.lt
        have hwV : w1.heap.size ≤ V.heap.size := HB3a.out.size
        go_upto_region 5 with (go_at_call 45; refine (three_no p k c R _ HOK.out HH3.out (HTW.out _ HB3a.out) (HTT.out _ HB3a.out)).mono ?_; rintro e w4 ⟨rfl, hB4⟩; have HX4 := Lib.hid (HX.out.below hB4 hxV); have HB24 := Lib.hid (HB2a.out.trans (hB4.mono HB2a.out.size)); have HB4 := Lib.hid (HB3a.out.trans (hB4.mono hwV)); clear hB4)
        have hw4 : w1.heap.size ≤ w4.heap.size := HB4.out.size
        have HY : Hid (BoxN (w4.alloc (.cells #[.int .i64 0, .int .i64 0, .int .i64 0, .int .i64 0] 45)) w4.heap.size 45 #[.int .i64 0, .int .i64 0, .int .i64 0, .int .i64 0]) := BoxN.new rfl
        have HX4a := Lib.hid (HX4.out.alloc (.cells #[.int .i64 0, .int .i64 0, .int .i64 0, .int .i64 0] 45))
        have HB4a : Hid (Below w1.heap.size w1 (w4.alloc (.cells #[.int .i64 0, .int .i64 0, .int .i64 0, .int .i64 0] 45))) := HB4.out.alloc hw4 _
        have HB24a : Hid (Below w2.heap.size w2 (w4.alloc (.cells #[.int .i64 0, .int .i64 0, .int .i64 0, .int .i64 0] 45))) := HB24.out.alloc HB24.out.size _
        generalize w4.alloc (.cells #[.int .i64 0, .int .i64 0, .int .i64 0, .int .i64 0] 45) = U at *
        obtain ⟨b10, hb10⟩ : ∃ b10, Hid (b10 = w4.heap.size) := ⟨_, rfl⟩
        rw [← hb10.out] at HY ⊢
        have hyU := HY.out.lt
        have hxU := HX4a.out.lt
        have hwU : w1.heap.size ≤ U.heap.size := HB4a.out.size
        clear HX HX4 HB3a HB2a HB23 hxV
        have HWK := Lib.hid hW
        go_upto_region 6 with (go_at_call 46; refine (lev_none p k c R _ HOK.out HWK.out (HTT.out _ HB4a.out)).mono ?_; rintro e w5 ⟨rfl, hB5⟩; have HX5 := Lib.hid (HX4a.out.below hB5 hxU); have HY5 := Lib.hid (HY.out.below hB5 hyU); have HB25 := Lib.hid (HB24a.out.trans (hB5.mono HB24a.out.size)); have HB5 := Lib.hid (HB4a.out.trans (hB5.mono hwU)); clear hB5)
        clear hW HX4a HY hxU hyU
        have hw5 : w1.heap.size ≤ w5.heap.size := HB5.out.size
        have hx5 := HX5.out.lt
        have hy5 := HY5.out.lt
        have d0 := HX5.out.cell 0
        have d1 := HX5.out.cell 1
        have d2 := HX5.out.cell 2
        have d3 := HX5.out.cell 3
        go_upto_region 9 with (go_at_call 29; refine (pTT_yes p k c R x y z u _ HOK.out HTH2.out (HTT.out _ HB5.out)).mono ?_; rintro e w6 ⟨rfl, hB6⟩; have HY6 := Lib.hid (HY5.out.below hB6 hy5); have e0 := HY6.out.cell 0; have e1 := HY6.out.cell 1; have e2 := HY6.out.cell 2; have e3 := HY6.out.cell 3; have HB6 := Lib.hid (HB5.out.trans (hB6.mono hw5)); clear hB6)
        have HBG := Lib.hid HB6.out
        generalize w6 = wG at *
        go_upto_region 11 with (fail)
        go_loopw [15, 17] (fun s15 s17 wr => ∃ (i : Nat) (b : Bool), i ≤ k ∧ s17 = .int .i64 (i : Int) ∧ s15 = .bool b ∧ Hid (GoS k R b (fun x y z => x < i ∨ (x = i ∧ (y < 0 ∨ (y = 0 ∧ z < 0))))) ∧ Hid (wr.heap = wG.heap ∧ wr = wG)) (fun _ s17 _ => k - (intOf s17).toNat)
        case atStart => exact ⟨0, true, by omega, rfl, rfl, GoS.start, rfl, rfl⟩
        case round =>
          obtain ⟨i, b, hi, rfl, rfl, hG, hw⟩ := hrel
          obtain ⟨_, hw⟩ := hw.out
          replace hw := hw.symm
          subst hw
          by_cases hik : i < k
          · have g1 : (i : Int) < (k : Int) := by omega
            have g1' : (0 : Int) ≤ (i : Int) := by omega
            go_upto_region 14 with (fail)
            go_loopw [15, 18] (fun s15 s18 wr => ∃ (j : Nat) (b : Bool), j ≤ k ∧ s18 = .int .i64 (j : Int) ∧ s15 = .bool b ∧ Hid (GoS k R b (fun x y z => x < i ∨ (x = i ∧ (y < j ∨ (y = j ∧ z < 0))))) ∧ Hid (wr.heap = wG.heap ∧ wr = wG)) (fun _ s18 _ => k - (intOf s18).toNat)
            case atStart => exact ⟨0, b, by omega, rfl, rfl, hG, rfl, rfl⟩
            case round =>
              clear hG
              obtain ⟨j, b, hj, rfl, rfl, hG, hw⟩ := hrel
              obtain ⟨_, hw⟩ := hw.out
              replace hw := hw.symm
              subst hw
              by_cases hjk : j < k
              · have g2 : (j : Int) < (k : Int) := by omega
                have g2' : (0 : Int) ≤ (j : Int) := by omega
                go_upto_region 17 with (fail)
                go_loopw [15, 19] (fun s15 s19 wr => ∃ (l : Nat) (b : Bool), l ≤ k ∧ s19 = .int .i64 (l : Int) ∧ s15 = .bool b ∧ Hid (GoS k R b (fun x y z => x < i ∨ (x = i ∧ (y < j ∨ (y = j ∧ z < l))))) ∧ Hid (wr.heap = wG.heap ∧ wr = wG)) (fun _ s19 _ => k - (intOf s19).toNat)
                case atStart => exact ⟨0, b, by omega, rfl, rfl, hG, rfl, rfl⟩
                case round =>
                  clear hG
                  obtain ⟨l, b, hl, rfl, rfl, hG, hw⟩ := hrel
                  obtain ⟨_, hw⟩ := hw.out
                  replace hw := hw.symm
                  subst hw
                  by_cases hlk : l < k
                  · have g3 : (l : Int) < (k : Int) := by omega
                    have H1 := Lib.hid (overlap_any p k c i j R wG (by omega) hik hjk (HTT.out _ HBG.out))
                    have H2 := Lib.hid (overlap_any p k c j l R wG (by omega) hjk hlk (HTT.out _ HBG.out))
                    have H3 := Lib.hid (overlap_any p k c i l R wG (by omega) hik hlk (HTT.out _ HBG.out))
                    have HNX : Hid ((Ovl R i j → Ovl R j l → i ≠ l → Ovl R i l) → GoS k R b (fun x y z => x < i ∨ (x = i ∧ (y < j ∨ (y = j ∧ z < l + 1))))) := fun h => hG.out.next h
                    have HI1 : Hid (ovB R i j = true ↔ Ovl R i j) := ovB_iff
                    have HI2 : Hid (ovB R j l = true ↔ Ovl R j l) := ovB_iff
                    have HI3 : Hid (ovB R i l = true ↔ Ovl R i l) := ovB_iff
                    generalize ovB R i j = u1 at *
                    generalize ovB R j l = u2 at *
                    generalize ovB R i l = u3 at *
                    clear hG
                    cases u1
                    · have HN := Lib.hid (HNX.out (fun h => absurd (HI1.out.2 h) (by simp)))
                      clear HNX H2 H3 HI1 HI2 HI3
                      go_wp2_with (first
                        | (go_at_call 48; refine H1.out.mono ?_; rintro e wA ⟨rfl, hwA⟩; replace hwA := hwA.symm; subst hwA; clear H1))
                      exact ⟨⟨l + 1, b, by omega, int_eq (by omega), rfl, HN, (by first | exact ⟨rfl, rfl⟩ | exact ⟨trivial, trivial⟩)⟩, by simp [intOf]; omega⟩
                    · cases u2
                      · have HN := Lib.hid (HNX.out (fun _ h => absurd (HI2.out.2 h) (by simp)))
                        clear HNX H3 HI1 HI2 HI3
                        go_wp2_with (first
                          | (go_at_call 48; refine H1.out.mono ?_; rintro e wA ⟨rfl, hwA⟩; replace hwA := hwA.symm; subst hwA; clear H1)
                          | (go_at_call 48; refine H2.out.mono ?_; rintro e wA ⟨rfl, hwA⟩; replace hwA := hwA.symm; subst hwA; clear H2))
                        exact ⟨⟨l + 1, b, by omega, int_eq (by omega), rfl, HN, (by first | exact ⟨rfl, rfl⟩ | exact ⟨trivial, trivial⟩)⟩, by simp [intOf]; omega⟩
                      · by_cases eil : i = l
                        · have q1 : ((i : Int) != (l : Int)) = false := by simp [eil]
                          have HN := Lib.hid (HNX.out (fun _ _ h => absurd eil h))
                          clear HNX H3 HI1 HI2 HI3 eil
                          go_wp2_with (first
                            | (go_at_call 48; refine H1.out.mono ?_; rintro e wA ⟨rfl, hwA⟩; replace hwA := hwA.symm; subst hwA; clear H1)
                            | (go_at_call 48; refine H2.out.mono ?_; rintro e wA ⟨rfl, hwA⟩; replace hwA := hwA.symm; subst hwA; clear H2))
                          exact ⟨⟨l + 1, b, by omega, int_eq (by omega), rfl, HN, (by first | exact ⟨rfl, rfl⟩ | exact ⟨trivial, trivial⟩)⟩, by simp [intOf]; omega⟩
                        · have q1 : ((i : Int) != (l : Int)) = true := by rw [bne_iff_ne]; omega
                          cases u3
                          · have HN : Hid (GoS k R false (fun x y z => x < i ∨ (x = i ∧ (y < j ∨ (y = j ∧ z < l + 1))))) := GoS.bad hik hjk hlk (HI1.out.1 rfl) (HI2.out.1 rfl) eil (fun h => absurd (HI3.out.2 h) (by simp))
                            clear HNX HI1 HI2 HI3 eil
                            go_wp2_with (first
                              | (go_at_call 48; refine H1.out.mono ?_; rintro e wA ⟨rfl, hwA⟩; replace hwA := hwA.symm; subst hwA; clear H1)
                              | (go_at_call 48; refine H2.out.mono ?_; rintro e wA ⟨rfl, hwA⟩; replace hwA := hwA.symm; subst hwA; clear H2)
                              | (go_at_call 48; refine H3.out.mono ?_; rintro e wA ⟨rfl, hwA⟩; replace hwA := hwA.symm; subst hwA; clear H3))
                            exact ⟨⟨l + 1, false, by omega, int_eq (by omega), rfl, HN, (by first | exact ⟨rfl, rfl⟩ | exact ⟨trivial, trivial⟩)⟩, by simp [intOf]; omega⟩
                          · have HN := Lib.hid (HNX.out (fun _ _ _ => HI3.out.1 rfl))
                            clear HNX HI1 HI2 HI3 eil
                            go_wp2_with (first
                              | (go_at_call 48; refine H1.out.mono ?_; rintro e wA ⟨rfl, hwA⟩; replace hwA := hwA.symm; subst hwA; clear H1)
                              | (go_at_call 48; refine H2.out.mono ?_; rintro e wA ⟨rfl, hwA⟩; replace hwA := hwA.symm; subst hwA; clear H2)
                              | (go_at_call 48; refine H3.out.mono ?_; rintro e wA ⟨rfl, hwA⟩; replace hwA := hwA.symm; subst hwA; clear H3))
                            exact ⟨⟨l + 1, b, by omega, int_eq (by omega), rfl, HN, (by first | exact ⟨rfl, rfl⟩ | exact ⟨trivial, trivial⟩)⟩, by simp [intOf]; omega⟩
                  · have g3 : ¬ (l : Int) < (k : Int) := by omega
                    obtain rfl : k = l := by omega
                    go_wp2
                    exact ⟨⟨j + 1, b, by omega, int_eq (by omega), rfl, hG.out.row1, (by first | exact ⟨rfl, rfl⟩ | exact ⟨trivial, trivial⟩)⟩, by simp [intOf]; omega⟩
              · have g2 : ¬ (j : Int) < (k : Int) := by omega
                obtain rfl : k = j := by omega
                go_wp2
                exact ⟨⟨i + 1, b, by omega, int_eq (by omega), rfl, hG.out.row2, (by first | exact ⟨rfl, rfl⟩ | exact ⟨trivial, trivial⟩)⟩, by simp [intOf]; omega⟩
          · have g1 : ¬ (i : Int) < (k : Int) := by omega
            obtain rfl : k = i := by omega
            have hdn := hG.out.done HOK.out.ord
            clear hG
            have hb : b = false := bfalse (fun e => HWK.out (hdn.1 e))
            subst hb
            go_wp2_with (go_at_call 17; refine (awake_any _ (HTW.out _ HBG.out)).mono ?_; rintro e w9 ⟨rfl, hB9⟩; have HB9 := Lib.hid (HBG.out.trans (hB9.mono HBG.out.size)); clear hB9)
            go_ret
            exact ⟨rfl, HB1.out.trans (HB9.out.mono hsz1)⟩
  · skip
    by_cases h3 : HasThree k R
    · skip
      by_cases hW : Weak k R
      · skip
        have HH2 := Lib.hid h2
        have HH3 := Lib.hid h3
        have HH : Hid (HasTwo k R ∨ HasThree k R) := .inr h3
        go_upto_region 3 with (go_at_call 44; refine (pos_none p k c R _ HOK.out HH.out (HTW.out _ HR.out) (HTT.out _ HR.out)).mono ?_; rintro e w2 ⟨rfl, hB2⟩; have HB2 := Lib.hid hB2; clear hB2)
        clear h2 h3
        have hw2 : w1.heap.size ≤ w2.heap.size := HB2.out.size
        go_upto_region 4 with (go_at_call 25; refine (two_no p k c R _ HOK.out (fun a b c d h => HH2.out ⟨a, b, c, d, h⟩) (HTW.out _ HB2.out) (HTT.out _ HB2.out)).mono ?_; rintro e w3 ⟨rfl, hB3⟩; have HB23 := Lib.hid hB3; have HB3 := Lib.hid (HB2.out.trans (hB3.mono hw2)); clear hB3)
        have hw3 : w1.heap.size ≤ w3.heap.size := HB3.out.size
        have HX : Hid (BoxN (w3.alloc (.cells #[.int .i64 0, .int .i64 0, .int .i64 0, .int .i64 0] 45)) w3.heap.size 45 #[.int .i64 0, .int .i64 0, .int .i64 0, .int .i64 0]) := BoxN.new rfl
        have HB3a : Hid (Below w1.heap.size w1 (w3.alloc (.cells #[.int .i64 0, .int .i64 0, .int .i64 0, .int .i64 0] 45))) := HB3.out.alloc hw3 _
        have HB2a : Hid (Below w2.heap.size w2 (w3.alloc (.cells #[.int .i64 0, .int .i64 0, .int .i64 0, .int .i64 0] 45))) := HB23.out.alloc HB23.out.size _
        generalize w3.alloc (.cells #[.int .i64 0, .int .i64 0, .int .i64 0, .int .i64 0] 45) = V at *
        obtain ⟨b7, hb7⟩ : ∃ b7, Hid (b7 = w3.heap.size) := ⟨_, rfl⟩
        rw [← hb7.out] at HX ⊢
        have hxV := HX.out.lt
        have hwV : w1.heap.size ≤ V.heap.size := HB3a.out.size
        go_upto_region 5 with (go_at_call 45; refine (three_yes p k c R _ HOK.out HH3.out (HTW.out _ HB3a.out) (HTT.out _ HB3a.out)).mono ?_; rintro e w4 ⟨x', y', z', u', rfl, hth, hB4⟩; have HTH3 := Lib.hid hth; have HX4 := Lib.hid (HX.out.below hB4 hxV); have HB24 := Lib.hid (HB2a.out.trans (hB4.mono HB2a.out.size)); have HB4 := Lib.hid (HB3a.out.trans (hB4.mono hwV)); clear hth hB4)
        have hw4 : w1.heap.size ≤ w4.heap.size := HB4.out.size
        have HY : Hid (BoxN (w4.alloc (.cells #[.int .i64 (x' : Int), .int .i64 (y' : Int), .int .i64 (z' : Int), .int .i64 (u' : Int)] 45)) w4.heap.size 45 #[.int .i64 (x' : Int), .int .i64 (y' : Int), .int .i64 (z' : Int), .int .i64 (u' : Int)]) := BoxN.new rfl
        have HX4a := Lib.hid (HX4.out.alloc (.cells #[.int .i64 (x' : Int), .int .i64 (y' : Int), .int .i64 (z' : Int), .int .i64 (u' : Int)] 45))
        have HB4a : Hid (Below w1.heap.size w1 (w4.alloc (.cells #[.int .i64 (x' : Int), .int .i64 (y' : Int), .int .i64 (z' : Int), .int .i64 (u' : Int)] 45))) := HB4.out.alloc hw4 _
        have HB24a : Hid (Below w2.heap.size w2 (w4.alloc (.cells #[.int .i64 (x' : Int), .int .i64 (y' : Int), .int .i64 (z' : Int), .int .i64 (u' : Int)] 45))) := HB24.out.alloc HB24.out.size _
        generalize w4.alloc (.cells #[.int .i64 (x' : Int), .int .i64 (y' : Int), .int .i64 (z' : Int), .int .i64 (u' : Int)] 45) = U at *
        obtain ⟨b10, hb10⟩ : ∃ b10, Hid (b10 = w4.heap.size) := ⟨_, rfl⟩
        rw [← hb10.out] at HY ⊢
        have hyU := HY.out.lt
        have hxU := HX4a.out.lt
        have hwU : w1.heap.size ≤ U.heap.size := HB4a.out.size
        clear HX HX4 HB3a HB2a HB23 hxV
        have HWK := Lib.hid hW
        obtain ⟨L, hL⟩ := sets_ex k R
        have HL := Lib.hid hL
        clear hL
        go_upto_region 6 with (go_at_call 46; refine (lev_some p k c R L _ HOK.out HWK.out HL.out (HTT.out _ HB4a.out)).mono ?_; rintro e w5 ⟨v5, rfl, hq5, hB5⟩; obtain ⟨p5, c5, rfl⟩ := hq5.isSlice; have HQ5 := Lib.hid hq5; have HX5 := Lib.hid (HX4a.out.below hB5 hxU); have HY5 := Lib.hid (HY.out.below hB5 hyU); have HB25 := Lib.hid (HB24a.out.trans (hB5.mono HB24a.out.size)); have HB5 := Lib.hid (HB4a.out.trans (hB5.mono hwU)); clear hq5 hB5)
        clear hW HX4a HY hxU hyU
        have hw5 : w1.heap.size ≤ w5.heap.size := HB5.out.size
        have hx5 := HX5.out.lt
        have hy5 := HY5.out.lt
        have d0 := HY5.out.cell 0
        have d1 := HY5.out.cell 1
        have d2 := HY5.out.cell 2
        have d3 := HY5.out.cell 3
        go_upto_region 9 with (go_at_call 40; refine (pTO_yes p k c R x' y' z' u' _ HOK.out HTH3.out (HTT.out _ HB5.out)).mono ?_; rintro e w6 ⟨rfl, hB6⟩; have HQ6 := Lib.hid (HQ5.out.below hB6 (fun kk e => (HQ5.out.lt kk e).2)); have HB6 := Lib.hid (HB5.out.trans (hB6.mono HB5.out.size)); clear hB6)
        have HBG := Lib.hid HB6.out
        have HQG := Lib.hid HQ6.out
        generalize w6 = wG at *
        go_upto_region 11 with (fail)
        go_loopw [15, 17] (fun s15 s17 wr => ∃ (i : Nat) (b : Bool), i ≤ k ∧ s17 = .int .i64 (i : Int) ∧ s15 = .bool b ∧ Hid (GoS k R b (fun x y z => x < i ∨ (x = i ∧ (y < 0 ∨ (y = 0 ∧ z < 0))))) ∧ Hid (wr.heap = wG.heap ∧ wr = wG)) (fun _ s17 _ => k - (intOf s17).toNat)
        case atStart => exact ⟨0, true, by omega, rfl, rfl, GoS.start, rfl, rfl⟩
        case round =>
          obtain ⟨i, b, hi, rfl, rfl, hG, hw⟩ := hrel
          obtain ⟨_, hw⟩ := hw.out
          replace hw := hw.symm
          subst hw
          by_cases hik : i < k
          · have g1 : (i : Int) < (k : Int) := by omega
            have g1' : (0 : Int) ≤ (i : Int) := by omega
            go_upto_region 14 with (fail)
            go_loopw [15, 18] (fun s15 s18 wr => ∃ (j : Nat) (b : Bool), j ≤ k ∧ s18 = .int .i64 (j : Int) ∧ s15 = .bool b ∧ Hid (GoS k R b (fun x y z => x < i ∨ (x = i ∧ (y < j ∨ (y = j ∧ z < 0))))) ∧ Hid (wr.heap = wG.heap ∧ wr = wG)) (fun _ s18 _ => k - (intOf s18).toNat)
            case atStart => exact ⟨0, b, by omega, rfl, rfl, hG, rfl, rfl⟩
            case round =>
              clear hG
              obtain ⟨j, b, hj, rfl, rfl, hG, hw⟩ := hrel
              obtain ⟨_, hw⟩ := hw.out
              replace hw := hw.symm
              subst hw
              by_cases hjk : j < k
              · have g2 : (j : Int) < (k : Int) := by omega
                have g2' : (0 : Int) ≤ (j : Int) := by omega
                go_upto_region 17 with (fail)
                go_loopw [15, 19] (fun s15 s19 wr => ∃ (l : Nat) (b : Bool), l ≤ k ∧ s19 = .int .i64 (l : Int) ∧ s15 = .bool b ∧ Hid (GoS k R b (fun x y z => x < i ∨ (x = i ∧ (y < j ∨ (y = j ∧ z < l))))) ∧ Hid (wr.heap = wG.heap ∧ wr = wG)) (fun _ s19 _ => k - (intOf s19).toNat)
                case atStart => exact ⟨0, b, by omega, rfl, rfl, hG, rfl, rfl⟩
                case round =>
                  clear hG
                  obtain ⟨l, b, hl, rfl, rfl, hG, hw⟩ := hrel
                  obtain ⟨_, hw⟩ := hw.out
                  replace hw := hw.symm
                  subst hw
                  by_cases hlk : l < k
                  · have g3 : (l : Int) < (k : Int) := by omega
                    have H1 := Lib.hid (overlap_any p k c i j R wG (by omega) hik hjk (HTT.out _ HBG.out))
                    have H2 := Lib.hid (overlap_any p k c j l R wG (by omega) hjk hlk (HTT.out _ HBG.out))
                    have H3 := Lib.hid (overlap_any p k c i l R wG (by omega) hik hlk (HTT.out _ HBG.out))
                    have HNX : Hid ((Ovl R i j → Ovl R j l → i ≠ l → Ovl R i l) → GoS k R b (fun x y z => x < i ∨ (x = i ∧ (y < j ∨ (y = j ∧ z < l + 1))))) := fun h => hG.out.next h
                    have HI1 : Hid (ovB R i j = true ↔ Ovl R i j) := ovB_iff
                    have HI2 : Hid (ovB R j l = true ↔ Ovl R j l) := ovB_iff
                    have HI3 : Hid (ovB R i l = true ↔ Ovl R i l) := ovB_iff
                    generalize ovB R i j = u1 at *
                    generalize ovB R j l = u2 at *
                    generalize ovB R i l = u3 at *
                    clear hG
                    cases u1
                    · have HN := Lib.hid (HNX.out (fun h => absurd (HI1.out.2 h) (by simp)))
                      clear HNX H2 H3 HI1 HI2 HI3
                      go_wp2_with (first
                        | (go_at_call 48; refine H1.out.mono ?_; rintro e wA ⟨rfl, hwA⟩; replace hwA := hwA.symm; subst hwA; clear H1))
                      exact ⟨⟨l + 1, b, by omega, int_eq (by omega), rfl, HN, (by first | exact ⟨rfl, rfl⟩ | exact ⟨trivial, trivial⟩)⟩, by simp [intOf]; omega⟩
                    · cases u2
                      · have HN := Lib.hid (HNX.out (fun _ h => absurd (HI2.out.2 h) (by simp)))
                        clear HNX H3 HI1 HI2 HI3
                        go_wp2_with (first
                          | (go_at_call 48; refine H1.out.mono ?_; rintro e wA ⟨rfl, hwA⟩; replace hwA := hwA.symm; subst hwA; clear H1)
                          | (go_at_call 48; refine H2.out.mono ?_; rintro e wA ⟨rfl, hwA⟩; replace hwA := hwA.symm; subst hwA; clear H2))
                        exact ⟨⟨l + 1, b, by omega, int_eq (by omega), rfl, HN, (by first | exact ⟨rfl, rfl⟩ | exact ⟨trivial, trivial⟩)⟩, by simp [intOf]; omega⟩
                      · by_cases eil : i = l
                        · have q1 : ((i : Int) != (l : Int)) = false := by simp [eil]
                          have HN := Lib.hid (HNX.out (fun _ _ h => absurd eil h))
                          clear HNX H3 HI1 HI2 HI3 eil
                          go_wp2_with (first
                            | (go_at_call 48; refine H1.out.mono ?_; rintro e wA ⟨rfl, hwA⟩; replace hwA := hwA.symm; subst hwA; clear H1)
                            | (go_at_call 48; refine H2.out.mono ?_; rintro e wA ⟨rfl, hwA⟩; replace hwA := hwA.symm; subst hwA; clear H2))
                          exact ⟨⟨l + 1, b, by omega, int_eq (by omega), rfl, HN, (by first | exact ⟨rfl, rfl⟩ | exact ⟨trivial, trivial⟩)⟩, by simp [intOf]; omega⟩
                        · have q1 : ((i : Int) != (l : Int)) = true := by rw [bne_iff_ne]; omega
                          cases u3
                          · have HN : Hid (GoS k R false (fun x y z => x < i ∨ (x = i ∧ (y < j ∨ (y = j ∧ z < l + 1))))) := GoS.bad hik hjk hlk (HI1.out.1 rfl) (HI2.out.1 rfl) eil (fun h => absurd (HI3.out.2 h) (by simp))
                            clear HNX HI1 HI2 HI3 eil
                            go_wp2_with (first
                              | (go_at_call 48; refine H1.out.mono ?_; rintro e wA ⟨rfl, hwA⟩; replace hwA := hwA.symm; subst hwA; clear H1)
                              | (go_at_call 48; refine H2.out.mono ?_; rintro e wA ⟨rfl, hwA⟩; replace hwA := hwA.symm; subst hwA; clear H2)
                              | (go_at_call 48; refine H3.out.mono ?_; rintro e wA ⟨rfl, hwA⟩; replace hwA := hwA.symm; subst hwA; clear H3))
                            exact ⟨⟨l + 1, false, by omega, int_eq (by omega), rfl, HN, (by first | exact ⟨rfl, rfl⟩ | exact ⟨trivial, trivial⟩)⟩, by simp [intOf]; omega⟩
                          · have HN := Lib.hid (HNX.out (fun _ _ _ => HI3.out.1 rfl))
                            clear HNX HI1 HI2 HI3 eil
                            go_wp2_with (first
                              | (go_at_call 48; refine H1.out.mono ?_; rintro e wA ⟨rfl, hwA⟩; replace hwA := hwA.symm; subst hwA; clear H1)
                              | (go_at_call 48; refine H2.out.mono ?_; rintro e wA ⟨rfl, hwA⟩; replace hwA := hwA.symm; subst hwA; clear H2)
                              | (go_at_call 48; refine H3.out.mono ?_; rintro e wA ⟨rfl, hwA⟩; replace hwA := hwA.symm; subst hwA; clear H3))
                            exact ⟨⟨l + 1, b, by omega, int_eq (by omega), rfl, HN, (by first | exact ⟨rfl, rfl⟩ | exact ⟨trivial, trivial⟩)⟩, by simp [intOf]; omega⟩
                  · have g3 : ¬ (l : Int) < (k : Int) := by omega
                    obtain rfl : k = l := by omega
                    go_wp2
                    exact ⟨⟨j + 1, b, by omega, int_eq (by omega), rfl, hG.out.row1, (by first | exact ⟨rfl, rfl⟩ | exact ⟨trivial, trivial⟩)⟩, by simp [intOf]; omega⟩
              · have g2 : ¬ (j : Int) < (k : Int) := by omega
                obtain rfl : k = j := by omega
                go_wp2
                exact ⟨⟨i + 1, b, by omega, int_eq (by omega), rfl, hG.out.row2, (by first | exact ⟨rfl, rfl⟩ | exact ⟨trivial, trivial⟩)⟩, by simp [intOf]; omega⟩
          · have g1 : ¬ (i : Int) < (k : Int) := by omega
            obtain rfl : k = i := by omega
            have hdn := hG.out.done HOK.out.ord
            clear hG
            have hb : b = true := hdn.2 HWK.out
            subst hb
            have HHT : Hid (∀ x, x < k → lftS L (bef k R x) ≤ 12) := fun x hx => by have h1 := weak_le HOK.out.ord hk12 HWK.out HL.out _ x hx rfl; have h2 := cn_le (fun i => R i x) k; omega
            have HSG : Hid (SrcI wG p5 k (fun x => ((lftS L (bef k R x) : Nat) : Int))) := HQG.out.srcI (ivI_get _ k)
            have HRY := Lib.hid (pRep_yes p p5 k c k c5 R (fun x => ((lftS L (bef k R x) : Nat) : Int)) 0 wG HOK.out (weak_rep HOK.out.ord hk12 HWK.out HL.out (fun x _ => rfl)) (HTT.out _ HBG.out) HSG.out)
            have hwG : w1.heap.size ≤ wG.heap.size := HBG.out.size
            go_upto_region 27 with (go_at_call 42; refine HRY.out.mono ?_; rintro e wH ⟨rfl, hBH⟩; have HSH := Lib.hid (HSG.out.below hBH (Nat.le_refl _)); have HBH := Lib.hid (HBG.out.trans (hBH.mono hwG)); clear hBH)
            obtain ⟨hh, hhe⟩ : ∃ hh : Nat → Nat, ∀ x, hh x = lftS L (bef k R x) := ⟨_, fun _ => rfl⟩
            have HH1 : Hid (SrcI wH p5 k (fun x => ((hh x : Nat) : Int))) := by rw [show (fun x => ((hh x : Nat) : Int)) = (fun x => ((lftS L (bef k R x) : Nat) : Int)) from funext fun x => by rw [hhe]]; exact HSH.out
            have HH12 : Hid (∀ x, x < k → hh x ≤ 12) := fun x hx => by rw [hhe]; exact HHT.out x hx
            have HIT : Hid (∀ x, x < k → ∀ q, q ≤ hh x → ∃ y, y < k ∧ hh y = q) := fun x hx q hq => by
              rw [hhe] at hq
              obtain ⟨y, hy, e⟩ := height_hit HL.out hx hq
              exact ⟨y, hy, (hhe y).trans e⟩
            obtain ⟨hf1, hf2⟩ := HQG.out.fits
            have hf3 : (k : Int) ≤ (c5 : Int) := by omega
            clear hhe HSH HHT HRY HSG g1 hik hi hdn
            go_loopw [20, 21] (fun s20 s21 wr => ∃ i top : Nat, i ≤ k ∧ s21 = .int .i64 (i : Int) ∧ s20 = .int .i64 (top : Int) ∧ Hid (∃ x, x < k ∧ top ≤ hh x) ∧ Hid (wr.heap = wH.heap ∧ wr = wH)) (fun _ s21 _ => k - (intOf s21).toNat)
            case atStart => exact ⟨0, 0, by omega, rfl, rfl, ⟨0, by omega, Nat.zero_le _⟩, rfl, rfl⟩
            case round =>
              obtain ⟨i, top, hi, rfl, rfl, hTop, hw⟩ := hrel
              obtain ⟨_, hw⟩ := hw.out
              replace hw := hw.symm
              subst hw
              obtain ⟨x0, hx0, htop⟩ := hTop.out
              have htp : top ≤ 12 := by have := HH12.out x0 hx0; omega
              by_cases hik : i < k
              · have g1 : (i : Int) < (k : Int) := by omega
                have g2 : (0 : Int) ≤ (i : Int) := by omega
                obtain ⟨b5, o5, rfl, hb5, h1⟩ := HH1.out (by omega)
                have ko : Hid (o5 + i * 1 = o5 + i) := by unfold Hid; omega
                have k1 : wH.cell? ⟨b5, o5 + i, none⟩ = some (.int .i64 (hh i : Int)) := h1 i hik
                have hi12 := HH12.out i hik
                have HN : Hid (∃ x, x < k ∧ max top (hh i) ≤ hh x) := by
                  by_cases e : hh i ≤ top
                  · exact ⟨x0, hx0, by omega⟩
                  · exact ⟨i, hik, by omega⟩
                clear h1 hTop htop
                generalize hh i = hi' at *
                go_wp2
                exact ⟨⟨i + 1, max top hi', by omega, int_eq (by omega), int_eq (by omega), HN, (by first | exact ⟨rfl, rfl⟩ | exact ⟨trivial, trivial⟩)⟩, by simp [intOf]; omega⟩
              · have g1 : ¬ (i : Int) < (k : Int) := by omega
                obtain rfl : k = i := by omega
                go_upto_region 31 with (fail)
                go_loopw [22] (fun s22 wr => ∃ q : Nat, q ≤ top + 1 ∧ s22 = .int .i64 (q : Int) ∧ Hid (wr.heap = wH.heap ∧ wr = wH)) (fun s22 _ => top + 1 - (intOf s22).toNat)
                case atStart => exact ⟨0, by omega, rfl, rfl, rfl⟩
                case round =>
                  obtain ⟨q, hq, rfl, hw⟩ := hrel
                  obtain ⟨_, hw⟩ := hw.out
                  replace hw := hw.symm
                  subst hw
                  by_cases hqt : q ≤ top
                  · have g3 : (q : Int) ≤ (top : Int) := by omega
                    have HYQ := Lib.hid (HIT.out x0 hx0 q (by omega))
                    go_upto_region 35 with (fail)
                    go_loopw [23, 24] (fun s23 s24 wr => ∃ (j : Nat) (b : Bool), j ≤ k ∧ s24 = .int .i64 (j : Int) ∧ s23 = .bool b ∧ Hid (b = true ∨ ∀ x, x < j → hh x ≠ q) ∧ Hid (wr.heap = wH.heap ∧ wr = wH)) (fun _ s24 _ => k - (intOf s24).toNat)
                    case atStart => exact ⟨0, false, by omega, rfl, rfl, .inr (fun x h => by omega), rfl, rfl⟩
                    case round =>
                      obtain ⟨j, b, hj, rfl, rfl, hS, hw⟩ := hrel
                      obtain ⟨_, hw⟩ := hw.out
                      replace hw := hw.symm
                      subst hw
                      by_cases hjk : j < k
                      · have g4 : (j : Int) < (k : Int) := by omega
                        have g5 : (0 : Int) ≤ (j : Int) := by omega
                        obtain ⟨b5, o5, rfl, hb5, h1⟩ := HH1.out (by omega)
                        have k1 : wH.cell? ⟨b5, o5 + j, none⟩ = some (.int .i64 (hh j : Int)) := h1 j hjk
                        clear h1
                        cases b
                        · have HO : Hid (∀ x, x < j → hh x ≠ q) := hS.out.resolve_left (by simp)
                          by_cases e : hh j = q
                          · have q1 : ((hh j : Int) == (q : Int)) = true := by rw [e]; simp
                            go_wp2
                            exact ⟨⟨j + 1, true, by omega, int_eq (by omega), rfl, .inl rfl, (by first | exact ⟨rfl, rfl⟩ | exact ⟨trivial, trivial⟩)⟩, by simp [intOf]; omega⟩
                          · have q1 : ((hh j : Int) == (q : Int)) = false := by rw [beq_eq_false_iff_ne]; omega
                            go_wp2
                            exact ⟨⟨j + 1, false, by omega, int_eq (by omega), rfl, .inr (fun x hx => (Nat.lt_or_ge x j).elim (fun h => HO.out x h) (fun h => (show j = x by omega) ▸ e)), (by first | exact ⟨rfl, rfl⟩ | exact ⟨trivial, trivial⟩)⟩, by simp [intOf]; omega⟩
                        · go_wp2
                          exact ⟨⟨j + 1, true, by omega, int_eq (by omega), rfl, .inl rfl, (by first | exact ⟨rfl, rfl⟩ | exact ⟨trivial, trivial⟩)⟩, by simp [intOf]; omega⟩
                      · have g4 : ¬ (j : Int) < (k : Int) := by omega
                        have hb : b = true := hS.out.resolve_right (fun h => by obtain ⟨y, hy, e⟩ := HYQ.out; exact h y (by omega) e)
                        subst hb
                        go_wp2
                        exact ⟨⟨q + 1, by omega, int_eq (by omega), (by first | exact ⟨rfl, rfl⟩ | exact ⟨trivial, trivial⟩)⟩, by simp [intOf]; omega⟩
                  · have g3 : ¬ (q : Int) ≤ (top : Int) := by omega
                    go_wp2_with (go_at_call 17; refine (awake_any _ (HTW.out _ HBH.out)).mono ?_; rintro e w9 ⟨rfl, hB9⟩; have HB9 := Lib.hid (HBH.out.trans (hB9.mono HBH.out.size)); clear hB9)
                    go_ret
                    exact ⟨rfl, HB1.out.trans (HB9.out.mono hsz1)⟩
      · skip
        have HH2 := Lib.hid h2
        have HH3 := Lib.hid h3
        have HH : Hid (HasTwo k R ∨ HasThree k R) := .inr h3
        go_upto_region 3 with (go_at_call 44; refine (pos_none p k c R _ HOK.out HH.out (HTW.out _ HR.out) (HTT.out _ HR.out)).mono ?_; rintro e w2 ⟨rfl, hB2⟩; have HB2 := Lib.hid hB2; clear hB2)
        clear h2 h3
        have hw2 : w1.heap.size ≤ w2.heap.size := HB2.out.size
        go_upto_region 4 with (go_at_call 25; refine (two_no p k c R _ HOK.out (fun a b c d h => HH2.out ⟨a, b, c, d, h⟩) (HTW.out _ HB2.out) (HTT.out _ HB2.out)).mono ?_; rintro e w3 ⟨rfl, hB3⟩; have HB23 := Lib.hid hB3; have HB3 := Lib.hid (HB2.out.trans (hB3.mono hw2)); clear hB3)
        have hw3 : w1.heap.size ≤ w3.heap.size := HB3.out.size
        have HX : Hid (BoxN (w3.alloc (.cells #[.int .i64 0, .int .i64 0, .int .i64 0, .int .i64 0] 45)) w3.heap.size 45 #[.int .i64 0, .int .i64 0, .int .i64 0, .int .i64 0]) := BoxN.new rfl
        have HB3a : Hid (Below w1.heap.size w1 (w3.alloc (.cells #[.int .i64 0, .int .i64 0, .int .i64 0, .int .i64 0] 45))) := HB3.out.alloc hw3 _
        have HB2a : Hid (Below w2.heap.size w2 (w3.alloc (.cells #[.int .i64 0, .int .i64 0, .int .i64 0, .int .i64 0] 45))) := HB23.out.alloc HB23.out.size _
        generalize w3.alloc (.cells #[.int .i64 0, .int .i64 0, .int .i64 0, .int .i64 0] 45) = V at *
        obtain ⟨b7, hb7⟩ : ∃ b7, Hid (b7 = w3.heap.size) := ⟨_, rfl⟩
        rw [← hb7.out] at HX ⊢
        have hxV := HX.out.lt
        have hwV : w1.heap.size ≤ V.heap.size := HB3a.out.size
        go_upto_region 5 with (go_at_call 45; refine (three_yes p k c R _ HOK.out HH3.out (HTW.out _ HB3a.out) (HTT.out _ HB3a.out)).mono ?_; rintro e w4 ⟨x', y', z', u', rfl, hth, hB4⟩; have HTH3 := Lib.hid hth; have HX4 := Lib.hid (HX.out.below hB4 hxV); have HB24 := Lib.hid (HB2a.out.trans (hB4.mono HB2a.out.size)); have HB4 := Lib.hid (HB3a.out.trans (hB4.mono hwV)); clear hth hB4)
        have hw4 : w1.heap.size ≤ w4.heap.size := HB4.out.size
        have HY : Hid (BoxN (w4.alloc (.cells #[.int .i64 (x' : Int), .int .i64 (y' : Int), .int .i64 (z' : Int), .int .i64 (u' : Int)] 45)) w4.heap.size 45 #[.int .i64 (x' : Int), .int .i64 (y' : Int), .int .i64 (z' : Int), .int .i64 (u' : Int)]) := BoxN.new rfl
        have HX4a := Lib.hid (HX4.out.alloc (.cells #[.int .i64 (x' : Int), .int .i64 (y' : Int), .int .i64 (z' : Int), .int .i64 (u' : Int)] 45))
        have HB4a : Hid (Below w1.heap.size w1 (w4.alloc (.cells #[.int .i64 (x' : Int), .int .i64 (y' : Int), .int .i64 (z' : Int), .int .i64 (u' : Int)] 45))) := HB4.out.alloc hw4 _
        have HB24a : Hid (Below w2.heap.size w2 (w4.alloc (.cells #[.int .i64 (x' : Int), .int .i64 (y' : Int), .int .i64 (z' : Int), .int .i64 (u' : Int)] 45))) := HB24.out.alloc HB24.out.size _
        generalize w4.alloc (.cells #[.int .i64 (x' : Int), .int .i64 (y' : Int), .int .i64 (z' : Int), .int .i64 (u' : Int)] 45) = U at *
        obtain ⟨b10, hb10⟩ : ∃ b10, Hid (b10 = w4.heap.size) := ⟨_, rfl⟩
        rw [← hb10.out] at HY ⊢
        have hyU := HY.out.lt
        have hxU := HX4a.out.lt
        have hwU : w1.heap.size ≤ U.heap.size := HB4a.out.size
        clear HX HX4 HB3a HB2a HB23 hxV
        have HWK := Lib.hid hW
        go_upto_region 6 with (go_at_call 46; refine (lev_none p k c R _ HOK.out HWK.out (HTT.out _ HB4a.out)).mono ?_; rintro e w5 ⟨rfl, hB5⟩; have HX5 := Lib.hid (HX4a.out.below hB5 hxU); have HY5 := Lib.hid (HY.out.below hB5 hyU); have HB25 := Lib.hid (HB24a.out.trans (hB5.mono HB24a.out.size)); have HB5 := Lib.hid (HB4a.out.trans (hB5.mono hwU)); clear hB5)
        clear hW HX4a HY hxU hyU
        have hw5 : w1.heap.size ≤ w5.heap.size := HB5.out.size
        have hx5 := HX5.out.lt
        have hy5 := HY5.out.lt
        have d0 := HY5.out.cell 0
        have d1 := HY5.out.cell 1
        have d2 := HY5.out.cell 2
        have d3 := HY5.out.cell 3
        go_upto_region 9 with (go_at_call 40; refine (pTO_yes p k c R x' y' z' u' _ HOK.out HTH3.out (HTT.out _ HB5.out)).mono ?_; rintro e w6 ⟨rfl, hB6⟩; have HB6 := Lib.hid (HB5.out.trans (hB6.mono HB5.out.size)); clear hB6)
        have HBG := Lib.hid HB6.out
        generalize w6 = wG at *
        go_upto_region 11 with (fail)
        go_loopw [15, 17] (fun s15 s17 wr => ∃ (i : Nat) (b : Bool), i ≤ k ∧ s17 = .int .i64 (i : Int) ∧ s15 = .bool b ∧ Hid (GoS k R b (fun x y z => x < i ∨ (x = i ∧ (y < 0 ∨ (y = 0 ∧ z < 0))))) ∧ Hid (wr.heap = wG.heap ∧ wr = wG)) (fun _ s17 _ => k - (intOf s17).toNat)
        case atStart => exact ⟨0, true, by omega, rfl, rfl, GoS.start, rfl, rfl⟩
        case round =>
          obtain ⟨i, b, hi, rfl, rfl, hG, hw⟩ := hrel
          obtain ⟨_, hw⟩ := hw.out
          replace hw := hw.symm
          subst hw
          by_cases hik : i < k
          · have g1 : (i : Int) < (k : Int) := by omega
            have g1' : (0 : Int) ≤ (i : Int) := by omega
            go_upto_region 14 with (fail)
            go_loopw [15, 18] (fun s15 s18 wr => ∃ (j : Nat) (b : Bool), j ≤ k ∧ s18 = .int .i64 (j : Int) ∧ s15 = .bool b ∧ Hid (GoS k R b (fun x y z => x < i ∨ (x = i ∧ (y < j ∨ (y = j ∧ z < 0))))) ∧ Hid (wr.heap = wG.heap ∧ wr = wG)) (fun _ s18 _ => k - (intOf s18).toNat)
            case atStart => exact ⟨0, b, by omega, rfl, rfl, hG, rfl, rfl⟩
            case round =>
              clear hG
              obtain ⟨j, b, hj, rfl, rfl, hG, hw⟩ := hrel
              obtain ⟨_, hw⟩ := hw.out
              replace hw := hw.symm
              subst hw
              by_cases hjk : j < k
              · have g2 : (j : Int) < (k : Int) := by omega
                have g2' : (0 : Int) ≤ (j : Int) := by omega
                go_upto_region 17 with (fail)
                go_loopw [15, 19] (fun s15 s19 wr => ∃ (l : Nat) (b : Bool), l ≤ k ∧ s19 = .int .i64 (l : Int) ∧ s15 = .bool b ∧ Hid (GoS k R b (fun x y z => x < i ∨ (x = i ∧ (y < j ∨ (y = j ∧ z < l))))) ∧ Hid (wr.heap = wG.heap ∧ wr = wG)) (fun _ s19 _ => k - (intOf s19).toNat)
                case atStart => exact ⟨0, b, by omega, rfl, rfl, hG, rfl, rfl⟩
                case round =>
                  clear hG
                  obtain ⟨l, b, hl, rfl, rfl, hG, hw⟩ := hrel
                  obtain ⟨_, hw⟩ := hw.out
                  replace hw := hw.symm
                  subst hw
                  by_cases hlk : l < k
                  · have g3 : (l : Int) < (k : Int) := by omega
                    have H1 := Lib.hid (overlap_any p k c i j R wG (by omega) hik hjk (HTT.out _ HBG.out))
                    have H2 := Lib.hid (overlap_any p k c j l R wG (by omega) hjk hlk (HTT.out _ HBG.out))
                    have H3 := Lib.hid (overlap_any p k c i l R wG (by omega) hik hlk (HTT.out _ HBG.out))
                    have HNX : Hid ((Ovl R i j → Ovl R j l → i ≠ l → Ovl R i l) → GoS k R b (fun x y z => x < i ∨ (x = i ∧ (y < j ∨ (y = j ∧ z < l + 1))))) := fun h => hG.out.next h
                    have HI1 : Hid (ovB R i j = true ↔ Ovl R i j) := ovB_iff
                    have HI2 : Hid (ovB R j l = true ↔ Ovl R j l) := ovB_iff
                    have HI3 : Hid (ovB R i l = true ↔ Ovl R i l) := ovB_iff
                    generalize ovB R i j = u1 at *
                    generalize ovB R j l = u2 at *
                    generalize ovB R i l = u3 at *
                    clear hG
                    cases u1
                    · have HN := Lib.hid (HNX.out (fun h => absurd (HI1.out.2 h) (by simp)))
                      clear HNX H2 H3 HI1 HI2 HI3
                      go_wp2_with (first
                        | (go_at_call 48; refine H1.out.mono ?_; rintro e wA ⟨rfl, hwA⟩; replace hwA := hwA.symm; subst hwA; clear H1))
                      exact ⟨⟨l + 1, b, by omega, int_eq (by omega), rfl, HN, (by first | exact ⟨rfl, rfl⟩ | exact ⟨trivial, trivial⟩)⟩, by simp [intOf]; omega⟩
                    · cases u2
                      · have HN := Lib.hid (HNX.out (fun _ h => absurd (HI2.out.2 h) (by simp)))
                        clear HNX H3 HI1 HI2 HI3
                        go_wp2_with (first
                          | (go_at_call 48; refine H1.out.mono ?_; rintro e wA ⟨rfl, hwA⟩; replace hwA := hwA.symm; subst hwA; clear H1)
                          | (go_at_call 48; refine H2.out.mono ?_; rintro e wA ⟨rfl, hwA⟩; replace hwA := hwA.symm; subst hwA; clear H2))
                        exact ⟨⟨l + 1, b, by omega, int_eq (by omega), rfl, HN, (by first | exact ⟨rfl, rfl⟩ | exact ⟨trivial, trivial⟩)⟩, by simp [intOf]; omega⟩
                      · by_cases eil : i = l
                        · have q1 : ((i : Int) != (l : Int)) = false := by simp [eil]
                          have HN := Lib.hid (HNX.out (fun _ _ h => absurd eil h))
                          clear HNX H3 HI1 HI2 HI3 eil
                          go_wp2_with (first
                            | (go_at_call 48; refine H1.out.mono ?_; rintro e wA ⟨rfl, hwA⟩; replace hwA := hwA.symm; subst hwA; clear H1)
                            | (go_at_call 48; refine H2.out.mono ?_; rintro e wA ⟨rfl, hwA⟩; replace hwA := hwA.symm; subst hwA; clear H2))
                          exact ⟨⟨l + 1, b, by omega, int_eq (by omega), rfl, HN, (by first | exact ⟨rfl, rfl⟩ | exact ⟨trivial, trivial⟩)⟩, by simp [intOf]; omega⟩
                        · have q1 : ((i : Int) != (l : Int)) = true := by rw [bne_iff_ne]; omega
                          cases u3
                          · have HN : Hid (GoS k R false (fun x y z => x < i ∨ (x = i ∧ (y < j ∨ (y = j ∧ z < l + 1))))) := GoS.bad hik hjk hlk (HI1.out.1 rfl) (HI2.out.1 rfl) eil (fun h => absurd (HI3.out.2 h) (by simp))
                            clear HNX HI1 HI2 HI3 eil
                            go_wp2_with (first
                              | (go_at_call 48; refine H1.out.mono ?_; rintro e wA ⟨rfl, hwA⟩; replace hwA := hwA.symm; subst hwA; clear H1)
                              | (go_at_call 48; refine H2.out.mono ?_; rintro e wA ⟨rfl, hwA⟩; replace hwA := hwA.symm; subst hwA; clear H2)
                              | (go_at_call 48; refine H3.out.mono ?_; rintro e wA ⟨rfl, hwA⟩; replace hwA := hwA.symm; subst hwA; clear H3))
                            exact ⟨⟨l + 1, false, by omega, int_eq (by omega), rfl, HN, (by first | exact ⟨rfl, rfl⟩ | exact ⟨trivial, trivial⟩)⟩, by simp [intOf]; omega⟩
                          · have HN := Lib.hid (HNX.out (fun _ _ _ => HI3.out.1 rfl))
                            clear HNX HI1 HI2 HI3 eil
                            go_wp2_with (first
                              | (go_at_call 48; refine H1.out.mono ?_; rintro e wA ⟨rfl, hwA⟩; replace hwA := hwA.symm; subst hwA; clear H1)
                              | (go_at_call 48; refine H2.out.mono ?_; rintro e wA ⟨rfl, hwA⟩; replace hwA := hwA.symm; subst hwA; clear H2)
                              | (go_at_call 48; refine H3.out.mono ?_; rintro e wA ⟨rfl, hwA⟩; replace hwA := hwA.symm; subst hwA; clear H3))
                            exact ⟨⟨l + 1, b, by omega, int_eq (by omega), rfl, HN, (by first | exact ⟨rfl, rfl⟩ | exact ⟨trivial, trivial⟩)⟩, by simp [intOf]; omega⟩
                  · have g3 : ¬ (l : Int) < (k : Int) := by omega
                    obtain rfl : k = l := by omega
                    go_wp2
                    exact ⟨⟨j + 1, b, by omega, int_eq (by omega), rfl, hG.out.row1, (by first | exact ⟨rfl, rfl⟩ | exact ⟨trivial, trivial⟩)⟩, by simp [intOf]; omega⟩
              · have g2 : ¬ (j : Int) < (k : Int) := by omega
                obtain rfl : k = j := by omega
                go_wp2
                exact ⟨⟨i + 1, b, by omega, int_eq (by omega), rfl, hG.out.row2, (by first | exact ⟨rfl, rfl⟩ | exact ⟨trivial, trivial⟩)⟩, by simp [intOf]; omega⟩
          · have g1 : ¬ (i : Int) < (k : Int) := by omega
            obtain rfl : k = i := by omega
            have hdn := hG.out.done HOK.out.ord
            clear hG
            have hb : b = false := bfalse (fun e => HWK.out (hdn.1 e))
            subst hb
            go_wp2_with (go_at_call 17; refine (awake_any _ (HTW.out _ HBG.out)).mono ?_; rintro e w9 ⟨rfl, hB9⟩; have HB9 := Lib.hid (HBG.out.trans (hB9.mono HBG.out.size)); clear hB9)
            go_ret
            exact ⟨rfl, HB1.out.trans (HB9.out.mono hsz1)⟩
    · skip
      by_cases hW : Weak k R
      · skip
        have HH2 := Lib.hid h2
        have HH3 := Lib.hid h3
        go_upto_region 3 with (go_at_call 44; refine (pos_some p k c R _ HOK.out HH2.out HH3.out (HTW.out _ HR.out) (HTT.out _ HR.out)).mono ?_; rintro e w2 ⟨g, f, rfl, hrow, hle, hrep, hB2⟩; have HROW := Lib.hid hrow; have HLE := Lib.hid hle; have HREP := Lib.hid hrep; have HB2 := Lib.hid hB2; clear hrow hle hrep hB2)
        clear h2 h3
        have hw2 : w1.heap.size ≤ w2.heap.size := HB2.out.size
        go_upto_region 4 with (go_at_call 25; refine (two_no p k c R _ HOK.out (fun a b c d h => HH2.out ⟨a, b, c, d, h⟩) (HTW.out _ HB2.out) (HTT.out _ HB2.out)).mono ?_; rintro e w3 ⟨rfl, hB3⟩; have HB23 := Lib.hid hB3; have HB3 := Lib.hid (HB2.out.trans (hB3.mono hw2)); clear hB3)
        have hw3 : w1.heap.size ≤ w3.heap.size := HB3.out.size
        have HX : Hid (BoxN (w3.alloc (.cells #[.int .i64 0, .int .i64 0, .int .i64 0, .int .i64 0] 45)) w3.heap.size 45 #[.int .i64 0, .int .i64 0, .int .i64 0, .int .i64 0]) := BoxN.new rfl
        have HB3a : Hid (Below w1.heap.size w1 (w3.alloc (.cells #[.int .i64 0, .int .i64 0, .int .i64 0, .int .i64 0] 45))) := HB3.out.alloc hw3 _
        have HB2a : Hid (Below w2.heap.size w2 (w3.alloc (.cells #[.int .i64 0, .int .i64 0, .int .i64 0, .int .i64 0] 45))) := HB23.out.alloc HB23.out.size _
        generalize w3.alloc (.cells #[.int .i64 0, .int .i64 0, .int .i64 0, .int .i64 0] 45) = V at *
        obtain ⟨b7, hb7⟩ : ∃ b7, Hid (b7 = w3.heap.size) := ⟨_, rfl⟩
        rw [← hb7.out] at HX ⊢
        have hxV := HX.out.lt
        have hwV : w1.heap.size ≤ V.heap.size := HB3a.out.size
        go_upto_region 5 with (go_at_call 45; refine (three_no p k c R _ HOK.out HH3.out (HTW.out _ HB3a.out) (HTT.out _ HB3a.out)).mono ?_; rintro e w4 ⟨rfl, hB4⟩; have HX4 := Lib.hid (HX.out.below hB4 hxV); have HB24 := Lib.hid (HB2a.out.trans (hB4.mono HB2a.out.size)); have HB4 := Lib.hid (HB3a.out.trans (hB4.mono hwV)); clear hB4)
        have hw4 : w1.heap.size ≤ w4.heap.size := HB4.out.size
        have HY : Hid (BoxN (w4.alloc (.cells #[.int .i64 0, .int .i64 0, .int .i64 0, .int .i64 0] 45)) w4.heap.size 45 #[.int .i64 0, .int .i64 0, .int .i64 0, .int .i64 0]) := BoxN.new rfl
        have HX4a := Lib.hid (HX4.out.alloc (.cells #[.int .i64 0, .int .i64 0, .int .i64 0, .int .i64 0] 45))
        have HB4a : Hid (Below w1.heap.size w1 (w4.alloc (.cells #[.int .i64 0, .int .i64 0, .int .i64 0, .int .i64 0] 45))) := HB4.out.alloc hw4 _
        have HB24a : Hid (Below w2.heap.size w2 (w4.alloc (.cells #[.int .i64 0, .int .i64 0, .int .i64 0, .int .i64 0] 45))) := HB24.out.alloc HB24.out.size _
        generalize w4.alloc (.cells #[.int .i64 0, .int .i64 0, .int .i64 0, .int .i64 0] 45) = U at *
        obtain ⟨b10, hb10⟩ : ∃ b10, Hid (b10 = w4.heap.size) := ⟨_, rfl⟩
        rw [← hb10.out] at HY ⊢
        have hyU := HY.out.lt
        have hxU := HX4a.out.lt
        have hwU : w1.heap.size ≤ U.heap.size := HB4a.out.size
        clear HX HX4 HB3a HB2a HB23 hxV
        have HWK := Lib.hid hW
        obtain ⟨L, hL⟩ := sets_ex k R
        have HL := Lib.hid hL
        clear hL
        go_upto_region 6 with (go_at_call 46; refine (lev_some p k c R L _ HOK.out HWK.out HL.out (HTT.out _ HB4a.out)).mono ?_; rintro e w5 ⟨v5, rfl, hq5, hB5⟩; obtain ⟨p5, c5, rfl⟩ := hq5.isSlice; have HQ5 := Lib.hid hq5; have HX5 := Lib.hid (HX4a.out.below hB5 hxU); have HY5 := Lib.hid (HY.out.below hB5 hyU); have HB25 := Lib.hid (HB24a.out.trans (hB5.mono HB24a.out.size)); have HB5 := Lib.hid (HB4a.out.trans (hB5.mono hwU)); clear hq5 hB5)
        clear hW HX4a HY hxU hyU
        have hw5 : w1.heap.size ≤ w5.heap.size := HB5.out.size
        have hx5 := HX5.out.lt
        have hy5 := HY5.out.lt
        have HS5 : Hid (SrcI w5 (some ⟨g, 0, none⟩) k (fun x => ((f x : Nat) : Int))) := SrcI.below (HROW.out.q (base := 0) (Nat.zero_le _) (by unfold maxLen; omega) |>.srcI (ivI_get _ k)) HB25.out (Nat.le_refl _)
        go_upto_region 9 with (go_at_call 42; refine (pRep_yes p (some ⟨g, 0, none⟩) k c k k R (fun x => ((f x : Nat) : Int)) (k : Int) _ HOK.out HREP.out (HTT.out _ HB5.out) HS5.out).mono ?_; rintro e w6 ⟨rfl, hB6⟩; have HQ6 := Lib.hid (HQ5.out.below hB6 (fun kk e => (HQ5.out.lt kk e).2)); have HB6 := Lib.hid (HB5.out.trans (hB6.mono hw5)); clear hB6)
        have HBG := Lib.hid HB6.out
        have HQG := Lib.hid HQ6.out
        generalize w6 = wG at *
        go_upto_region 11 with (fail)
        go_loopw [15, 17] (fun s15 s17 wr => ∃ (i : Nat) (b : Bool), i ≤ k ∧ s17 = .int .i64 (i : Int) ∧ s15 = .bool b ∧ Hid (GoS k R b (fun x y z => x < i ∨ (x = i ∧ (y < 0 ∨ (y = 0 ∧ z < 0))))) ∧ Hid (wr.heap = wG.heap ∧ wr = wG)) (fun _ s17 _ => k - (intOf s17).toNat)
        case atStart => exact ⟨0, true, by omega, rfl, rfl, GoS.start, rfl, rfl⟩
        case round =>
          obtain ⟨i, b, hi, rfl, rfl, hG, hw⟩ := hrel
          obtain ⟨_, hw⟩ := hw.out
          replace hw := hw.symm
          subst hw
          by_cases hik : i < k
          · have g1 : (i : Int) < (k : Int) := by omega
            have g1' : (0 : Int) ≤ (i : Int) := by omega
            go_upto_region 14 with (fail)
            go_loopw [15, 18] (fun s15 s18 wr => ∃ (j : Nat) (b : Bool), j ≤ k ∧ s18 = .int .i64 (j : Int) ∧ s15 = .bool b ∧ Hid (GoS k R b (fun x y z => x < i ∨ (x = i ∧ (y < j ∨ (y = j ∧ z < 0))))) ∧ Hid (wr.heap = wG.heap ∧ wr = wG)) (fun _ s18 _ => k - (intOf s18).toNat)
            case atStart => exact ⟨0, b, by omega, rfl, rfl, hG, rfl, rfl⟩
            case round =>
              clear hG
              obtain ⟨j, b, hj, rfl, rfl, hG, hw⟩ := hrel
              obtain ⟨_, hw⟩ := hw.out
              replace hw := hw.symm
              subst hw
              by_cases hjk : j < k
              · have g2 : (j : Int) < (k : Int) := by omega
                have g2' : (0 : Int) ≤ (j : Int) := by omega
                go_upto_region 17 with (fail)
                go_loopw [15, 19] (fun s15 s19 wr => ∃ (l : Nat) (b : Bool), l ≤ k ∧ s19 = .int .i64 (l : Int) ∧ s15 = .bool b ∧ Hid (GoS k R b (fun x y z => x < i ∨ (x = i ∧ (y < j ∨ (y = j ∧ z < l))))) ∧ Hid (wr.heap = wG.heap ∧ wr = wG)) (fun _ s19 _ => k - (intOf s19).toNat)
                case atStart => exact ⟨0, b, by omega, rfl, rfl, hG, rfl, rfl⟩
                case round =>
                  clear hG
                  obtain ⟨l, b, hl, rfl, rfl, hG, hw⟩ := hrel
                  obtain ⟨_, hw⟩ := hw.out
                  replace hw := hw.symm
                  subst hw
                  by_cases hlk : l < k
                  · have g3 : (l : Int) < (k : Int) := by omega
                    have H1 := Lib.hid (overlap_any p k c i j R wG (by omega) hik hjk (HTT.out _ HBG.out))
                    have H2 := Lib.hid (overlap_any p k c j l R wG (by omega) hjk hlk (HTT.out _ HBG.out))
                    have H3 := Lib.hid (overlap_any p k c i l R wG (by omega) hik hlk (HTT.out _ HBG.out))
                    have HNX : Hid ((Ovl R i j → Ovl R j l → i ≠ l → Ovl R i l) → GoS k R b (fun x y z => x < i ∨ (x = i ∧ (y < j ∨ (y = j ∧ z < l + 1))))) := fun h => hG.out.next h
                    have HI1 : Hid (ovB R i j = true ↔ Ovl R i j) := ovB_iff
                    have HI2 : Hid (ovB R j l = true ↔ Ovl R j l) := ovB_iff
                    have HI3 : Hid (ovB R i l = true ↔ Ovl R i l) := ovB_iff
                    generalize ovB R i j = u1 at *
                    generalize ovB R j l = u2 at *
                    generalize ovB R i l = u3 at *
                    clear hG
                    cases u1
                    · have HN := Lib.hid (HNX.out (fun h => absurd (HI1.out.2 h) (by simp)))
                      clear HNX H2 H3 HI1 HI2 HI3
                      go_wp2_with (first
                        | (go_at_call 48; refine H1.out.mono ?_; rintro e wA ⟨rfl, hwA⟩; replace hwA := hwA.symm; subst hwA; clear H1))
                      exact ⟨⟨l + 1, b, by omega, int_eq (by omega), rfl, HN, (by first | exact ⟨rfl, rfl⟩ | exact ⟨trivial, trivial⟩)⟩, by simp [intOf]; omega⟩
                    · cases u2
                      · have HN := Lib.hid (HNX.out (fun _ h => absurd (HI2.out.2 h) (by simp)))
                        clear HNX H3 HI1 HI2 HI3
                        go_wp2_with (first
                          | (go_at_call 48; refine H1.out.mono ?_; rintro e wA ⟨rfl, hwA⟩; replace hwA := hwA.symm; subst hwA; clear H1)
                          | (go_at_call 48; refine H2.out.mono ?_; rintro e wA ⟨rfl, hwA⟩; replace hwA := hwA.symm; subst hwA; clear H2))
                        exact ⟨⟨l + 1, b, by omega, int_eq (by omega), rfl, HN, (by first | exact ⟨rfl, rfl⟩ | exact ⟨trivial, trivial⟩)⟩, by simp [intOf]; omega⟩
                      · by_cases eil : i = l
                        · have q1 : ((i : Int) != (l : Int)) = false := by simp [eil]
                          have HN := Lib.hid (HNX.out (fun _ _ h => absurd eil h))
                          clear HNX H3 HI1 HI2 HI3 eil
                          go_wp2_with (first
                            | (go_at_call 48; refine H1.out.mono ?_; rintro e wA ⟨rfl, hwA⟩; replace hwA := hwA.symm; subst hwA; clear H1)
                            | (go_at_call 48; refine H2.out.mono ?_; rintro e wA ⟨rfl, hwA⟩; replace hwA := hwA.symm; subst hwA; clear H2))
                          exact ⟨⟨l + 1, b, by omega, int_eq (by omega), rfl, HN, (by first | exact ⟨rfl, rfl⟩ | exact ⟨trivial, trivial⟩)⟩, by simp [intOf]; omega⟩
                        · have q1 : ((i : Int) != (l : Int)) = true := by rw [bne_iff_ne]; omega
                          cases u3
                          · have HN : Hid (GoS k R false (fun x y z => x < i ∨ (x = i ∧ (y < j ∨ (y = j ∧ z < l + 1))))) := GoS.bad hik hjk hlk (HI1.out.1 rfl) (HI2.out.1 rfl) eil (fun h => absurd (HI3.out.2 h) (by simp))
                            clear HNX HI1 HI2 HI3 eil
                            go_wp2_with (first
                              | (go_at_call 48; refine H1.out.mono ?_; rintro e wA ⟨rfl, hwA⟩; replace hwA := hwA.symm; subst hwA; clear H1)
                              | (go_at_call 48; refine H2.out.mono ?_; rintro e wA ⟨rfl, hwA⟩; replace hwA := hwA.symm; subst hwA; clear H2)
                              | (go_at_call 48; refine H3.out.mono ?_; rintro e wA ⟨rfl, hwA⟩; replace hwA := hwA.symm; subst hwA; clear H3))
                            exact ⟨⟨l + 1, false, by omega, int_eq (by omega), rfl, HN, (by first | exact ⟨rfl, rfl⟩ | exact ⟨trivial, trivial⟩)⟩, by simp [intOf]; omega⟩
                          · have HN := Lib.hid (HNX.out (fun _ _ _ => HI3.out.1 rfl))
                            clear HNX HI1 HI2 HI3 eil
                            go_wp2_with (first
                              | (go_at_call 48; refine H1.out.mono ?_; rintro e wA ⟨rfl, hwA⟩; replace hwA := hwA.symm; subst hwA; clear H1)
                              | (go_at_call 48; refine H2.out.mono ?_; rintro e wA ⟨rfl, hwA⟩; replace hwA := hwA.symm; subst hwA; clear H2)
                              | (go_at_call 48; refine H3.out.mono ?_; rintro e wA ⟨rfl, hwA⟩; replace hwA := hwA.symm; subst hwA; clear H3))
                            exact ⟨⟨l + 1, b, by omega, int_eq (by omega), rfl, HN, (by first | exact ⟨rfl, rfl⟩ | exact ⟨trivial, trivial⟩)⟩, by simp [intOf]; omega⟩
                  · have g3 : ¬ (l : Int) < (k : Int) := by omega
                    obtain rfl : k = l := by omega
                    go_wp2
                    exact ⟨⟨j + 1, b, by omega, int_eq (by omega), rfl, hG.out.row1, (by first | exact ⟨rfl, rfl⟩ | exact ⟨trivial, trivial⟩)⟩, by simp [intOf]; omega⟩
              · have g2 : ¬ (j : Int) < (k : Int) := by omega
                obtain rfl : k = j := by omega
                go_wp2
                exact ⟨⟨i + 1, b, by omega, int_eq (by omega), rfl, hG.out.row2, (by first | exact ⟨rfl, rfl⟩ | exact ⟨trivial, trivial⟩)⟩, by simp [intOf]; omega⟩
          · have g1 : ¬ (i : Int) < (k : Int) := by omega
            obtain rfl : k = i := by omega
            have hdn := hG.out.done HOK.out.ord
            clear hG
            have hb : b = true := hdn.2 HWK.out
            subst hb
            have HHT : Hid (∀ x, x < k → lftS L (bef k R x) ≤ 12) := fun x hx => by have h1 := weak_le HOK.out.ord hk12 HWK.out HL.out _ x hx rfl; have h2 := cn_le (fun i => R i x) k; omega
            have HSG : Hid (SrcI wG p5 k (fun x => ((lftS L (bef k R x) : Nat) : Int))) := HQG.out.srcI (ivI_get _ k)
            have HRY := Lib.hid (pRep_yes p p5 k c k c5 R (fun x => ((lftS L (bef k R x) : Nat) : Int)) 0 wG HOK.out (weak_rep HOK.out.ord hk12 HWK.out HL.out (fun x _ => rfl)) (HTT.out _ HBG.out) HSG.out)
            have hwG : w1.heap.size ≤ wG.heap.size := HBG.out.size
            go_upto_region 27 with (go_at_call 42; refine HRY.out.mono ?_; rintro e wH ⟨rfl, hBH⟩; have HSH := Lib.hid (HSG.out.below hBH (Nat.le_refl _)); have HBH := Lib.hid (HBG.out.trans (hBH.mono hwG)); clear hBH)
            obtain ⟨hh, hhe⟩ : ∃ hh : Nat → Nat, ∀ x, hh x = lftS L (bef k R x) := ⟨_, fun _ => rfl⟩
            have HH1 : Hid (SrcI wH p5 k (fun x => ((hh x : Nat) : Int))) := by rw [show (fun x => ((hh x : Nat) : Int)) = (fun x => ((lftS L (bef k R x) : Nat) : Int)) from funext fun x => by rw [hhe]]; exact HSH.out
            have HH12 : Hid (∀ x, x < k → hh x ≤ 12) := fun x hx => by rw [hhe]; exact HHT.out x hx
            have HIT : Hid (∀ x, x < k → ∀ q, q ≤ hh x → ∃ y, y < k ∧ hh y = q) := fun x hx q hq => by
              rw [hhe] at hq
              obtain ⟨y, hy, e⟩ := height_hit HL.out hx hq
              exact ⟨y, hy, (hhe y).trans e⟩
            obtain ⟨hf1, hf2⟩ := HQG.out.fits
            have hf3 : (k : Int) ≤ (c5 : Int) := by omega
            clear hhe HSH HHT HRY HSG g1 hik hi hdn
            go_loopw [20, 21] (fun s20 s21 wr => ∃ i top : Nat, i ≤ k ∧ s21 = .int .i64 (i : Int) ∧ s20 = .int .i64 (top : Int) ∧ Hid (∃ x, x < k ∧ top ≤ hh x) ∧ Hid (wr.heap = wH.heap ∧ wr = wH)) (fun _ s21 _ => k - (intOf s21).toNat)
            case atStart => exact ⟨0, 0, by omega, rfl, rfl, ⟨0, by omega, Nat.zero_le _⟩, rfl, rfl⟩
            case round =>
              obtain ⟨i, top, hi, rfl, rfl, hTop, hw⟩ := hrel
              obtain ⟨_, hw⟩ := hw.out
              replace hw := hw.symm
              subst hw
              obtain ⟨x0, hx0, htop⟩ := hTop.out
              have htp : top ≤ 12 := by have := HH12.out x0 hx0; omega
              by_cases hik : i < k
              · have g1 : (i : Int) < (k : Int) := by omega
                have g2 : (0 : Int) ≤ (i : Int) := by omega
                obtain ⟨b5, o5, rfl, hb5, h1⟩ := HH1.out (by omega)
                have ko : Hid (o5 + i * 1 = o5 + i) := by unfold Hid; omega
                have k1 : wH.cell? ⟨b5, o5 + i, none⟩ = some (.int .i64 (hh i : Int)) := h1 i hik
                have hi12 := HH12.out i hik
                have HN : Hid (∃ x, x < k ∧ max top (hh i) ≤ hh x) := by
                  by_cases e : hh i ≤ top
                  · exact ⟨x0, hx0, by omega⟩
                  · exact ⟨i, hik, by omega⟩
                clear h1 hTop htop
                generalize hh i = hi' at *
                go_wp2
                exact ⟨⟨i + 1, max top hi', by omega, int_eq (by omega), int_eq (by omega), HN, (by first | exact ⟨rfl, rfl⟩ | exact ⟨trivial, trivial⟩)⟩, by simp [intOf]; omega⟩
              · have g1 : ¬ (i : Int) < (k : Int) := by omega
                obtain rfl : k = i := by omega
                go_upto_region 31 with (fail)
                go_loopw [22] (fun s22 wr => ∃ q : Nat, q ≤ top + 1 ∧ s22 = .int .i64 (q : Int) ∧ Hid (wr.heap = wH.heap ∧ wr = wH)) (fun s22 _ => top + 1 - (intOf s22).toNat)
                case atStart => exact ⟨0, by omega, rfl, rfl, rfl⟩
                case round =>
                  obtain ⟨q, hq, rfl, hw⟩ := hrel
                  obtain ⟨_, hw⟩ := hw.out
                  replace hw := hw.symm
                  subst hw
                  by_cases hqt : q ≤ top
                  · have g3 : (q : Int) ≤ (top : Int) := by omega
                    have HYQ := Lib.hid (HIT.out x0 hx0 q (by omega))
                    go_upto_region 35 with (fail)
                    go_loopw [23, 24] (fun s23 s24 wr => ∃ (j : Nat) (b : Bool), j ≤ k ∧ s24 = .int .i64 (j : Int) ∧ s23 = .bool b ∧ Hid (b = true ∨ ∀ x, x < j → hh x ≠ q) ∧ Hid (wr.heap = wH.heap ∧ wr = wH)) (fun _ s24 _ => k - (intOf s24).toNat)
                    case atStart => exact ⟨0, false, by omega, rfl, rfl, .inr (fun x h => by omega), rfl, rfl⟩
                    case round =>
                      obtain ⟨j, b, hj, rfl, rfl, hS, hw⟩ := hrel
                      obtain ⟨_, hw⟩ := hw.out
                      replace hw := hw.symm
                      subst hw
                      by_cases hjk : j < k
                      · have g4 : (j : Int) < (k : Int) := by omega
                        have g5 : (0 : Int) ≤ (j : Int) := by omega
                        obtain ⟨b5, o5, rfl, hb5, h1⟩ := HH1.out (by omega)
                        have k1 : wH.cell? ⟨b5, o5 + j, none⟩ = some (.int .i64 (hh j : Int)) := h1 j hjk
                        clear h1
                        cases b
                        · have HO : Hid (∀ x, x < j → hh x ≠ q) := hS.out.resolve_left (by simp)
                          by_cases e : hh j = q
                          · have q1 : ((hh j : Int) == (q : Int)) = true := by rw [e]; simp
                            go_wp2
                            exact ⟨⟨j + 1, true, by omega, int_eq (by omega), rfl, .inl rfl, (by first | exact ⟨rfl, rfl⟩ | exact ⟨trivial, trivial⟩)⟩, by simp [intOf]; omega⟩
                          · have q1 : ((hh j : Int) == (q : Int)) = false := by rw [beq_eq_false_iff_ne]; omega
                            go_wp2
                            exact ⟨⟨j + 1, false, by omega, int_eq (by omega), rfl, .inr (fun x hx => (Nat.lt_or_ge x j).elim (fun h => HO.out x h) (fun h => (show j = x by omega) ▸ e)), (by first | exact ⟨rfl, rfl⟩ | exact ⟨trivial, trivial⟩)⟩, by simp [intOf]; omega⟩
                        · go_wp2
                          exact ⟨⟨j + 1, true, by omega, int_eq (by omega), rfl, .inl rfl, (by first | exact ⟨rfl, rfl⟩ | exact ⟨trivial, trivial⟩)⟩, by simp [intOf]; omega⟩
                      · have g4 : ¬ (j : Int) < (k : Int) := by omega
                        have hb : b = true := hS.out.resolve_right (fun h => by obtain ⟨y, hy, e⟩ := HYQ.out; exact h y (by omega) e)
                        subst hb
                        go_wp2
                        exact ⟨⟨q + 1, by omega, int_eq (by omega), (by first | exact ⟨rfl, rfl⟩ | exact ⟨trivial, trivial⟩)⟩, by simp [intOf]; omega⟩
                  · have g3 : ¬ (q : Int) ≤ (top : Int) := by omega
                    go_wp2_with (go_at_call 17; refine (awake_any _ (HTW.out _ HBH.out)).mono ?_; rintro e w9 ⟨rfl, hB9⟩; have HB9 := Lib.hid (HBH.out.trans (hB9.mono HBH.out.size)); clear hB9)
                    go_ret
                    exact ⟨rfl, HB1.out.trans (HB9.out.mono hsz1)⟩
      · skip
        have HH2 := Lib.hid h2
        have HH3 := Lib.hid h3
        go_upto_region 3 with (go_at_call 44; refine (pos_some p k c R _ HOK.out HH2.out HH3.out (HTW.out _ HR.out) (HTT.out _ HR.out)).mono ?_; rintro e w2 ⟨g, f, rfl, hrow, hle, hrep, hB2⟩; have HROW := Lib.hid hrow; have HLE := Lib.hid hle; have HREP := Lib.hid hrep; have HB2 := Lib.hid hB2; clear hrow hle hrep hB2)
        clear h2 h3
        have hw2 : w1.heap.size ≤ w2.heap.size := HB2.out.size
        go_upto_region 4 with (go_at_call 25; refine (two_no p k c R _ HOK.out (fun a b c d h => HH2.out ⟨a, b, c, d, h⟩) (HTW.out _ HB2.out) (HTT.out _ HB2.out)).mono ?_; rintro e w3 ⟨rfl, hB3⟩; have HB23 := Lib.hid hB3; have HB3 := Lib.hid (HB2.out.trans (hB3.mono hw2)); clear hB3)
        have hw3 : w1.heap.size ≤ w3.heap.size := HB3.out.size
        have HX : Hid (BoxN (w3.alloc (.cells #[.int .i64 0, .int .i64 0, .int .i64 0, .int .i64 0] 45)) w3.heap.size 45 #[.int .i64 0, .int .i64 0, .int .i64 0, .int .i64 0]) := BoxN.new rfl
        have HB3a : Hid (Below w1.heap.size w1 (w3.alloc (.cells #[.int .i64 0, .int .i64 0, .int .i64 0, .int .i64 0] 45))) := HB3.out.alloc hw3 _
        have HB2a : Hid (Below w2.heap.size w2 (w3.alloc (.cells #[.int .i64 0, .int .i64 0, .int .i64 0, .int .i64 0] 45))) := HB23.out.alloc HB23.out.size _
        generalize w3.alloc (.cells #[.int .i64 0, .int .i64 0, .int .i64 0, .int .i64 0] 45) = V at *
        obtain ⟨b7, hb7⟩ : ∃ b7, Hid (b7 = w3.heap.size) := ⟨_, rfl⟩
        rw [← hb7.out] at HX ⊢
        have hxV := HX.out.lt
        have hwV : w1.heap.size ≤ V.heap.size := HB3a.out.size
        go_upto_region 5 with (go_at_call 45; refine (three_no p k c R _ HOK.out HH3.out (HTW.out _ HB3a.out) (HTT.out _ HB3a.out)).mono ?_; rintro e w4 ⟨rfl, hB4⟩; have HX4 := Lib.hid (HX.out.below hB4 hxV); have HB24 := Lib.hid (HB2a.out.trans (hB4.mono HB2a.out.size)); have HB4 := Lib.hid (HB3a.out.trans (hB4.mono hwV)); clear hB4)
        have hw4 : w1.heap.size ≤ w4.heap.size := HB4.out.size
        have HY : Hid (BoxN (w4.alloc (.cells #[.int .i64 0, .int .i64 0, .int .i64 0, .int .i64 0] 45)) w4.heap.size 45 #[.int .i64 0, .int .i64 0, .int .i64 0, .int .i64 0]) := BoxN.new rfl
        have HX4a := Lib.hid (HX4.out.alloc (.cells #[.int .i64 0, .int .i64 0, .int .i64 0, .int .i64 0] 45))
        have HB4a : Hid (Below w1.heap.size w1 (w4.alloc (.cells #[.int .i64 0, .int .i64 0, .int .i64 0, .int .i64 0] 45))) := HB4.out.alloc hw4 _
        have HB24a : Hid (Below w2.heap.size w2 (w4.alloc (.cells #[.int .i64 0, .int .i64 0, .int .i64 0, .int .i64 0] 45))) := HB24.out.alloc HB24.out.size _
        generalize w4.alloc (.cells #[.int .i64 0, .int .i64 0, .int .i64 0, .int .i64 0] 45) = U at *
        obtain ⟨b10, hb10⟩ : ∃ b10, Hid (b10 = w4.heap.size) := ⟨_, rfl⟩
        rw [← hb10.out] at HY ⊢
        have hyU := HY.out.lt
        have hxU := HX4a.out.lt
        have hwU : w1.heap.size ≤ U.heap.size := HB4a.out.size
        clear HX HX4 HB3a HB2a HB23 hxV
        have HWK := Lib.hid hW
        go_upto_region 6 with (go_at_call 46; refine (lev_none p k c R _ HOK.out HWK.out (HTT.out _ HB4a.out)).mono ?_; rintro e w5 ⟨rfl, hB5⟩; have HX5 := Lib.hid (HX4a.out.below hB5 hxU); have HY5 := Lib.hid (HY.out.below hB5 hyU); have HB25 := Lib.hid (HB24a.out.trans (hB5.mono HB24a.out.size)); have HB5 := Lib.hid (HB4a.out.trans (hB5.mono hwU)); clear hB5)
        clear hW HX4a HY hxU hyU
        have hw5 : w1.heap.size ≤ w5.heap.size := HB5.out.size
        have hx5 := HX5.out.lt
        have hy5 := HY5.out.lt
        have HS5 : Hid (SrcI w5 (some ⟨g, 0, none⟩) k (fun x => ((f x : Nat) : Int))) := SrcI.below (HROW.out.q (base := 0) (Nat.zero_le _) (by unfold maxLen; omega) |>.srcI (ivI_get _ k)) HB25.out (Nat.le_refl _)
        go_upto_region 9 with (go_at_call 42; refine (pRep_yes p (some ⟨g, 0, none⟩) k c k k R (fun x => ((f x : Nat) : Int)) (k : Int) _ HOK.out HREP.out (HTT.out _ HB5.out) HS5.out).mono ?_; rintro e w6 ⟨rfl, hB6⟩; have HB6 := Lib.hid (HB5.out.trans (hB6.mono hw5)); clear hB6)
        have HBG := Lib.hid HB6.out
        generalize w6 = wG at *
        go_upto_region 11 with (fail)
        go_loopw [15, 17] (fun s15 s17 wr => ∃ (i : Nat) (b : Bool), i ≤ k ∧ s17 = .int .i64 (i : Int) ∧ s15 = .bool b ∧ Hid (GoS k R b (fun x y z => x < i ∨ (x = i ∧ (y < 0 ∨ (y = 0 ∧ z < 0))))) ∧ Hid (wr.heap = wG.heap ∧ wr = wG)) (fun _ s17 _ => k - (intOf s17).toNat)
        case atStart => exact ⟨0, true, by omega, rfl, rfl, GoS.start, rfl, rfl⟩
        case round =>
          obtain ⟨i, b, hi, rfl, rfl, hG, hw⟩ := hrel
          obtain ⟨_, hw⟩ := hw.out
          replace hw := hw.symm
          subst hw
          by_cases hik : i < k
          · have g1 : (i : Int) < (k : Int) := by omega
            have g1' : (0 : Int) ≤ (i : Int) := by omega
            go_upto_region 14 with (fail)
            go_loopw [15, 18] (fun s15 s18 wr => ∃ (j : Nat) (b : Bool), j ≤ k ∧ s18 = .int .i64 (j : Int) ∧ s15 = .bool b ∧ Hid (GoS k R b (fun x y z => x < i ∨ (x = i ∧ (y < j ∨ (y = j ∧ z < 0))))) ∧ Hid (wr.heap = wG.heap ∧ wr = wG)) (fun _ s18 _ => k - (intOf s18).toNat)
            case atStart => exact ⟨0, b, by omega, rfl, rfl, hG, rfl, rfl⟩
            case round =>
              clear hG
              obtain ⟨j, b, hj, rfl, rfl, hG, hw⟩ := hrel
              obtain ⟨_, hw⟩ := hw.out
              replace hw := hw.symm
              subst hw
              by_cases hjk : j < k
              · have g2 : (j : Int) < (k : Int) := by omega
                have g2' : (0 : Int) ≤ (j : Int) := by omega
                go_upto_region 17 with (fail)
                go_loopw [15, 19] (fun s15 s19 wr => ∃ (l : Nat) (b : Bool), l ≤ k ∧ s19 = .int .i64 (l : Int) ∧ s15 = .bool b ∧ Hid (GoS k R b (fun x y z => x < i ∨ (x = i ∧ (y < j ∨ (y = j ∧ z < l))))) ∧ Hid (wr.heap = wG.heap ∧ wr = wG)) (fun _ s19 _ => k - (intOf s19).toNat)
                case atStart => exact ⟨0, b, by omega, rfl, rfl, hG, rfl, rfl⟩
                case round =>
                  clear hG
                  obtain ⟨l, b, hl, rfl, rfl, hG, hw⟩ := hrel
                  obtain ⟨_, hw⟩ := hw.out
                  replace hw := hw.symm
                  subst hw
                  by_cases hlk : l < k
                  · have g3 : (l : Int) < (k : Int) := by omega
                    have H1 := Lib.hid (overlap_any p k c i j R wG (by omega) hik hjk (HTT.out _ HBG.out))
                    have H2 := Lib.hid (overlap_any p k c j l R wG (by omega) hjk hlk (HTT.out _ HBG.out))
                    have H3 := Lib.hid (overlap_any p k c i l R wG (by omega) hik hlk (HTT.out _ HBG.out))
                    have HNX : Hid ((Ovl R i j → Ovl R j l → i ≠ l → Ovl R i l) → GoS k R b (fun x y z => x < i ∨ (x = i ∧ (y < j ∨ (y = j ∧ z < l + 1))))) := fun h => hG.out.next h
                    have HI1 : Hid (ovB R i j = true ↔ Ovl R i j) := ovB_iff
                    have HI2 : Hid (ovB R j l = true ↔ Ovl R j l) := ovB_iff
                    have HI3 : Hid (ovB R i l = true ↔ Ovl R i l) := ovB_iff
                    generalize ovB R i j = u1 at *
                    generalize ovB R j l = u2 at *
                    generalize ovB R i l = u3 at *
                    clear hG
                    cases u1
                    · have HN := Lib.hid (HNX.out (fun h => absurd (HI1.out.2 h) (by simp)))
                      clear HNX H2 H3 HI1 HI2 HI3
                      go_wp2_with (first
                        | (go_at_call 48; refine H1.out.mono ?_; rintro e wA ⟨rfl, hwA⟩; replace hwA := hwA.symm; subst hwA; clear H1))
                      exact ⟨⟨l + 1, b, by omega, int_eq (by omega), rfl, HN, (by first | exact ⟨rfl, rfl⟩ | exact ⟨trivial, trivial⟩)⟩, by simp [intOf]; omega⟩
                    · cases u2
                      · have HN := Lib.hid (HNX.out (fun _ h => absurd (HI2.out.2 h) (by simp)))
                        clear HNX H3 HI1 HI2 HI3
                        go_wp2_with (first
                          | (go_at_call 48; refine H1.out.mono ?_; rintro e wA ⟨rfl, hwA⟩; replace hwA := hwA.symm; subst hwA; clear H1)
                          | (go_at_call 48; refine H2.out.mono ?_; rintro e wA ⟨rfl, hwA⟩; replace hwA := hwA.symm; subst hwA; clear H2))
                        exact ⟨⟨l + 1, b, by omega, int_eq (by omega), rfl, HN, (by first | exact ⟨rfl, rfl⟩ | exact ⟨trivial, trivial⟩)⟩, by simp [intOf]; omega⟩
                      · by_cases eil : i = l
                        · have q1 : ((i : Int) != (l : Int)) = false := by simp [eil]
                          have HN := Lib.hid (HNX.out (fun _ _ h => absurd eil h))
                          clear HNX H3 HI1 HI2 HI3 eil
                          go_wp2_with (first
                            | (go_at_call 48; refine H1.out.mono ?_; rintro e wA ⟨rfl, hwA⟩; replace hwA := hwA.symm; subst hwA; clear H1)
                            | (go_at_call 48; refine H2.out.mono ?_; rintro e wA ⟨rfl, hwA⟩; replace hwA := hwA.symm; subst hwA; clear H2))
                          exact ⟨⟨l + 1, b, by omega, int_eq (by omega), rfl, HN, (by first | exact ⟨rfl, rfl⟩ | exact ⟨trivial, trivial⟩)⟩, by simp [intOf]; omega⟩
                        · have q1 : ((i : Int) != (l : Int)) = true := by rw [bne_iff_ne]; omega
                          cases u3
                          · have HN : Hid (GoS k R false (fun x y z => x < i ∨ (x = i ∧ (y < j ∨ (y = j ∧ z < l + 1))))) := GoS.bad hik hjk hlk (HI1.out.1 rfl) (HI2.out.1 rfl) eil (fun h => absurd (HI3.out.2 h) (by simp))
                            clear HNX HI1 HI2 HI3 eil
                            go_wp2_with (first
                              | (go_at_call 48; refine H1.out.mono ?_; rintro e wA ⟨rfl, hwA⟩; replace hwA := hwA.symm; subst hwA; clear H1)
                              | (go_at_call 48; refine H2.out.mono ?_; rintro e wA ⟨rfl, hwA⟩; replace hwA := hwA.symm; subst hwA; clear H2)
                              | (go_at_call 48; refine H3.out.mono ?_; rintro e wA ⟨rfl, hwA⟩; replace hwA := hwA.symm; subst hwA; clear H3))
                            exact ⟨⟨l + 1, false, by omega, int_eq (by omega), rfl, HN, (by first | exact ⟨rfl, rfl⟩ | exact ⟨trivial, trivial⟩)⟩, by simp [intOf]; omega⟩
                          · have HN := Lib.hid (HNX.out (fun _ _ _ => HI3.out.1 rfl))
                            clear HNX HI1 HI2 HI3 eil
                            go_wp2_with (first
                              | (go_at_call 48; refine H1.out.mono ?_; rintro e wA ⟨rfl, hwA⟩; replace hwA := hwA.symm; subst hwA; clear H1)
                              | (go_at_call 48; refine H2.out.mono ?_; rintro e wA ⟨rfl, hwA⟩; replace hwA := hwA.symm; subst hwA; clear H2)
                              | (go_at_call 48; refine H3.out.mono ?_; rintro e wA ⟨rfl, hwA⟩; replace hwA := hwA.symm; subst hwA; clear H3))
                            exact ⟨⟨l + 1, b, by omega, int_eq (by omega), rfl, HN, (by first | exact ⟨rfl, rfl⟩ | exact ⟨trivial, trivial⟩)⟩, by simp [intOf]; omega⟩
                  · have g3 : ¬ (l : Int) < (k : Int) := by omega
                    obtain rfl : k = l := by omega
                    go_wp2
                    exact ⟨⟨j + 1, b, by omega, int_eq (by omega), rfl, hG.out.row1, (by first | exact ⟨rfl, rfl⟩ | exact ⟨trivial, trivial⟩)⟩, by simp [intOf]; omega⟩
              · have g2 : ¬ (j : Int) < (k : Int) := by omega
                obtain rfl : k = j := by omega
                go_wp2
                exact ⟨⟨i + 1, b, by omega, int_eq (by omega), rfl, hG.out.row2, (by first | exact ⟨rfl, rfl⟩ | exact ⟨trivial, trivial⟩)⟩, by simp [intOf]; omega⟩
          · have g1 : ¬ (i : Int) < (k : Int) := by omega
            obtain rfl : k = i := by omega
            have hdn := hG.out.done HOK.out.ord
            clear hG
            have hb : b = false := bfalse (fun e => HWK.out (hdn.1 e))
            subst hb
            go_wp2_with (go_at_call 17; refine (awake_any _ (HTW.out _ HBG.out)).mono ?_; rintro e w9 ⟨rfl, hB9⟩; have HB9 := Lib.hid (HBG.out.trans (hB9.mono HBG.out.size)); clear hB9)
            go_ret
            exact ⟨rfl, HB1.out.trans (HB9.out.mono hsz1)⟩
end Go.Proofs.YtgpijajgaclhfaaDoor
