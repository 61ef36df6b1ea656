/- A law's walk: ShiftPositions. -/
import Derived.Test.YtgpijajgaclhfaaDoorG1001
set_option linter.unusedVariables false
set_option linter.unusedSimpArgs false
namespace Go.Proofs.YtgpijajgaclhfaaDoor
open Go.RowKit Go.Shelf

set_option maxRecDepth 100000 in
set_option maxHeartbeats 8000000 in
theorem law10 (a : Option Addr) (n cap : Nat) (ln : Nat → Nat) (r : Nat → Nat → Bool) (w : World) (hP : TabIn w a n cap ln r) (hT : Tab w) :
    Calls Tryd.prog 10 #[.slice a n cap] w fun e w' => e = .returned (.bool true) ∧ Below w.heap.size w w' := by
  have HTM := Lib.hid (tame_any a n cap ln r w hP)
  have HTB := Lib.hid hT
  clear hP hT
  go_enter Tryd.func10, Tryd.ntmps10
  go_upto_region 2 with (go_at_call 22; refine HTM.out.mono ?_; rintro e w1 ⟨p, k, c, R, rfl, hT1, hok, hB1⟩; have HT1 := Lib.hid hT1; have HOK := Lib.hid hok; have HB1 := Lib.hid hB1; clear hT1 hok hB1)
  clear HTM
  have hsz1 : w.heap.size ≤ w1.heap.size := HB1.out.size
  have hk12 := HOK.out.n12
  have hk1 := HOK.out.n1
  have HTT := Lib.hid (fun W (hW : Below w1.heap.size w1 W) => HT1.out.below hW (Nat.le_refl _))
  have HTW := Lib.hid (fun W (hW : Below w1.heap.size w1 W) => HTB.out.below (HB1.out.trans (hW.mono hsz1)) (Nat.le_refl _))
  have HR := Lib.hid (Below.refl w1.heap.size w1)
  by_cases h2 : HasTwo k R
  · skip
    by_cases h3 : HasThree k R
    · skip
      by_cases hW : Weak k R
      · skip
        have HHAS := Lib.hid (fun W (hW : Below w1.heap.size w1 W) => has_at p k c R true true W HOK.out (⟨fun _ => h2, fun _ => rfl⟩) (⟨fun _ => h3, fun _ => rfl⟩) (HTT.out W hW))
        have HH : Hid (HasTwo k R ∨ HasThree k R) := .inl h2
        go_upto_region 3 with (go_at_call 44; refine (pos_none p k c R _ HOK.out HH.out (HTW.out _ HR.out) (HTT.out _ HR.out)).mono ?_; rintro e w2 ⟨rfl, hB2⟩; have HB2 := Lib.hid hB2; clear hB2)
        have hw2 : w1.heap.size ≤ w2.heap.size := HB2.out.size
        have HH3 := Lib.hid h3
        go_upto_region 4 with (go_at_call 45; refine (three_yes p k c R _ HOK.out HH3.out (HTW.out _ HB2.out) (HTT.out _ HB2.out)).mono ?_; rintro e w3 ⟨x, y, z, u, rfl, hth, hB3⟩; have HTH := Lib.hid hth; have HB23 := Lib.hid hB3; have HB3 := Lib.hid (HB2.out.trans (hB3.mono hw2)); clear hth hB3)
        clear h2 h3
        have hw3 : w1.heap.size ≤ w3.heap.size := HB3.out.size
        have HX : Hid (BoxN (w3.alloc (.cells #[.int .i64 (x : Int), .int .i64 (y : Int), .int .i64 (z : Int), .int .i64 (u : Int)] 45)) w3.heap.size 45 #[.int .i64 (x : Int), .int .i64 (y : Int), .int .i64 (z : Int), .int .i64 (u : Int)]) := BoxN.new rfl
        have HB3a : Hid (Below w1.heap.size w1 (w3.alloc (.cells #[.int .i64 (x : Int), .int .i64 (y : Int), .int .i64 (z : Int), .int .i64 (u : Int)] 45))) := HB3.out.alloc hw3 _
        have HB2a : Hid (Below w2.heap.size w2 (w3.alloc (.cells #[.int .i64 (x : Int), .int .i64 (y : Int), .int .i64 (z : Int), .int .i64 (u : Int)] 45))) := HB23.out.alloc HB23.out.size _
        generalize w3.alloc (.cells #[.int .i64 (x : Int), .int .i64 (y : Int), .int .i64 (z : Int), .int .i64 (u : Int)] 45) = V at *
        obtain ⟨b7, hb7⟩ : ∃ b7, Hid (b7 = w3.heap.size) := ⟨_, rfl⟩
        rw [← hb7.out] at HX ⊢
        have hxV := HX.out.lt
        have hwV : w1.heap.size ≤ V.heap.size := HB3a.out.size
        obtain ⟨L, hL⟩ := sets_ex k R
        have HL := Lib.hid hL
        have HWK := Lib.hid hW
        clear hL
        go_upto_region 5 with (go_at_call 46; refine (lev_some p k c R L _ HOK.out HWK.out HL.out (HTT.out _ HB3a.out)).mono ?_; rintro e w4 ⟨v4, rfl, hq4, hB4⟩; obtain ⟨p4, c4, rfl⟩ := hq4.isSlice; have HQ4 := Lib.hid hq4; have HX4 := Lib.hid (HX.out.below hB4 hxV); have HB24 := Lib.hid (HB2a.out.trans (hB4.mono HB2a.out.size)); have HB4 := Lib.hid (HB3a.out.trans (hB4.mono hwV)); clear hq4 hB4)
        clear hW HX HB3a hxV
        have hx4 := HX4.out.lt
        have hw4 : w1.heap.size ≤ w4.heap.size := HB4.out.size
        go_upto_region 6 with (go_at_call 26; refine (HHAS.out _ HB4.out).mono ?_; rintro e w5 ⟨rfl, hB5⟩; have HQ5 := Lib.hid (HQ4.out.below hB5 (fun kk e => (HQ4.out.lt kk e).2)); have HX5 := Lib.hid (HX4.out.below hB5 hx4); have HB25 := Lib.hid (HB24.out.trans (hB5.mono HB24.out.size)); have HB5 := Lib.hid (HB4.out.trans (hB5.mono hw4)); clear hB5)
        clear HX4 hx4 HB4 HHAS
        have d0 := HX5.out.cell 0
        have d1 := HX5.out.cell 1
        have d2 := HX5.out.cell 2
        have d3 := HX5.out.cell 3
        have hw5 : w1.heap.size ≤ w5.heap.size := HB5.out.size
        go_upto_region 18 with (go_at_call 41; refine (rTO_yes p k c R x y z u _ HOK.out HTH.out (HTT.out _ HB5.out)).mono ?_; rintro e w6 ⟨rfl, hB6⟩; have HQ6 := Lib.hid (HQ5.out.below hB6 (fun kk e => (HQ5.out.lt kk e).2)); have HB6 := Lib.hid (HB5.out.trans (hB6.mono hw5)); clear hB6)
        have hw6 : w1.heap.size ≤ w6.heap.size := HB6.out.size
        have HLV := Lib.hid (rLev_any p k c R w6 HOK.out (HTT.out _ HB6.out))
        go_upto_region 19 with (go_at_call 47; refine HLV.out.mono ?_; rintro e w7 ⟨⟨v7, f7, t7, h7⟩, hB7⟩; obtain ⟨rfl, hq7, hi7, he7⟩ := h7; obtain ⟨p7, c7, rfl⟩ := hq7.isSlice; have ht7 : t7 = true := hi7.2 HWK.out; subst ht7; have HS4 : Hid (SrcI w7 p4 k (fun x => ((lftS L (bef k R x) : Nat) : Int))) := (HQ6.out.srcI (ivI_get _ k)).below hB7 (Nat.le_refl _); have HS7 : Hid (SrcI w7 p7 k (fun x => ((lftS L (bef k R x) : Nat) : Int))) := (by rw [ivI_congr (fun j hj => by rw [he7 L HL.out HWK.out j hj] : ∀ j, j < k → ((f7 j : Nat) : Int) = ((lftS L (bef k R j) : Nat) : Int))] at hq7; exact hq7.srcI (ivI_get _ k)); have HB7 := Lib.hid (HB6.out.trans (hB7.mono hw6)); clear hq7 hi7 he7 hB7)
        have HIN := Lib.hid (ints_any p4 p7 k k k (fun x => ((lftS L (bef k R x) : Nat) : Int)) w7 (by omega) HS4.out HS7.out)
        have HIN2 := Lib.hid (ints_any p4 p7 k c4 c7 (fun x => ((lftS L (bef k R x) : Nat) : Int)) w7 (by omega) HS4.out HS7.out)
        clear HIN
        go_wp2_with (first
          | (go_at_call 35; refine HIN2.out.mono ?_; rintro e w8 ⟨rfl, z8, hz8⟩; subst hz8; have HB8 := Lib.hid (below_dr HB7.out z8))
          | (go_at_call 17; refine (awake_any _ (HTW.out _ HB8.out)).mono ?_; rintro e w9 ⟨rfl, hB9⟩; have HB9 := Lib.hid (HB8.out.trans (hB9.mono HB8.out.size)); clear hB9))
        go_ret
        exact ⟨rfl, HB1.out.trans (HB9.out.mono hsz1)⟩
      · skip
        have HHAS := Lib.hid (fun W (hW : Below w1.heap.size w1 W) => has_at p k c R true true W HOK.out (⟨fun _ => h2, fun _ => rfl⟩) (⟨fun _ => h3, fun _ => rfl⟩) (HTT.out W hW))
        have HH : Hid (HasTwo k R ∨ HasThree k R) := .inl h2
        go_upto_region 3 with (go_at_call 44; refine (pos_none p k c R _ HOK.out HH.out (HTW.out _ HR.out) (HTT.out _ HR.out)).mono ?_; rintro e w2 ⟨rfl, hB2⟩; have HB2 := Lib.hid hB2; clear hB2)
        have hw2 : w1.heap.size ≤ w2.heap.size := HB2.out.size
        have HH3 := Lib.hid h3
        go_upto_region 4 with (go_at_call 45; refine (three_yes p k c R _ HOK.out HH3.out (HTW.out _ HB2.out) (HTT.out _ HB2.out)).mono ?_; rintro e w3 ⟨x, y, z, u, rfl, hth, hB3⟩; have HTH := Lib.hid hth; have HB23 := Lib.hid hB3; have HB3 := Lib.hid (HB2.out.trans (hB3.mono hw2)); clear hth hB3)
        clear h2 h3
        have hw3 : w1.heap.size ≤ w3.heap.size := HB3.out.size
        have HX : Hid (BoxN (w3.alloc (.cells #[.int .i64 (x : Int), .int .i64 (y : Int), .int .i64 (z : Int), .int .i64 (u : Int)] 45)) w3.heap.size 45 #[.int .i64 (x : Int), .int .i64 (y : Int), .int .i64 (z : Int), .int .i64 (u : Int)]) := BoxN.new rfl
        have HB3a : Hid (Below w1.heap.size w1 (w3.alloc (.cells #[.int .i64 (x : Int), .int .i64 (y : Int), .int .i64 (z : Int), .int .i64 (u : Int)] 45))) := HB3.out.alloc hw3 _
        have HB2a : Hid (Below w2.heap.size w2 (w3.alloc (.cells #[.int .i64 (x : Int), .int .i64 (y : Int), .int .i64 (z : Int), .int .i64 (u : Int)] 45))) := HB23.out.alloc HB23.out.size _
        generalize w3.alloc (.cells #[.int .i64 (x : Int), .int .i64 (y : Int), .int .i64 (z : Int), .int .i64 (u : Int)] 45) = V at *
        obtain ⟨b7, hb7⟩ : ∃ b7, Hid (b7 = w3.heap.size) := ⟨_, rfl⟩
        rw [← hb7.out] at HX ⊢
        have hxV := HX.out.lt
        have hwV : w1.heap.size ≤ V.heap.size := HB3a.out.size
        have HWK := Lib.hid hW
        go_upto_region 5 with (go_at_call 46; refine (lev_none p k c R _ HOK.out HWK.out (HTT.out _ HB3a.out)).mono ?_; rintro e w4 ⟨rfl, hB4⟩; have HX4 := Lib.hid (HX.out.below hB4 hxV); have HB24 := Lib.hid (HB2a.out.trans (hB4.mono HB2a.out.size)); have HB4 := Lib.hid (HB3a.out.trans (hB4.mono hwV)); clear hB4)
        clear hW HX HB3a hxV
        have hx4 := HX4.out.lt
        have hw4 : w1.heap.size ≤ w4.heap.size := HB4.out.size
        go_upto_region 6 with (go_at_call 26; refine (HHAS.out _ HB4.out).mono ?_; rintro e w5 ⟨rfl, hB5⟩; have HX5 := Lib.hid (HX4.out.below hB5 hx4); have HB25 := Lib.hid (HB24.out.trans (hB5.mono HB24.out.size)); have HB5 := Lib.hid (HB4.out.trans (hB5.mono hw4)); clear hB5)
        clear HX4 hx4 HB4 HHAS
        have d0 := HX5.out.cell 0
        have d1 := HX5.out.cell 1
        have d2 := HX5.out.cell 2
        have d3 := HX5.out.cell 3
        have hw5 : w1.heap.size ≤ w5.heap.size := HB5.out.size
        go_upto_region 18 with (go_at_call 41; refine (rTO_yes p k c R x y z u _ HOK.out HTH.out (HTT.out _ HB5.out)).mono ?_; rintro e w6 ⟨rfl, hB6⟩; have HB6 := Lib.hid (HB5.out.trans (hB6.mono hw5)); clear hB6)
        have hw6 : w1.heap.size ≤ w6.heap.size := HB6.out.size
        have HLV := Lib.hid (rLev_any p k c R w6 HOK.out (HTT.out _ HB6.out))
        go_upto_region 19 with (go_at_call 47; refine HLV.out.mono ?_; rintro e w7 ⟨⟨v7, f7, t7, h7⟩, hB7⟩; obtain ⟨rfl, hq7, hi7, he7⟩ := h7; obtain ⟨p7, c7, rfl⟩ := hq7.isSlice; have ht7 : t7 = false := bfalse (fun e => HWK.out (hi7.1 e)); subst ht7; have HB7 := Lib.hid (HB6.out.trans (hB7.mono hw6)); clear hq7 hi7 he7 hB7)
        go_wp2_with (go_at_call 17; refine (awake_any _ (HTW.out _ HB7.out)).mono ?_; rintro e w9 ⟨rfl, hB9⟩; have HB9 := Lib.hid (HB7.out.trans (hB9.mono HB7.out.size)); clear hB9)
        go_ret
        exact ⟨rfl, HB1.out.trans (HB9.out.mono hsz1)⟩
    · skip
      by_cases hW : Weak k R
      · skip
        have HHAS := Lib.hid (fun W (hW : Below w1.heap.size w1 W) => has_at p k c R true false W HOK.out (⟨fun _ => h2, fun _ => rfl⟩) (⟨fun h => (by cases h), fun h => absurd h h3⟩) (HTT.out W hW))
        have HH : Hid (HasTwo k R ∨ HasThree k R) := .inl h2
        go_upto_region 3 with (go_at_call 44; refine (pos_none p k c R _ HOK.out HH.out (HTW.out _ HR.out) (HTT.out _ HR.out)).mono ?_; rintro e w2 ⟨rfl, hB2⟩; have HB2 := Lib.hid hB2; clear hB2)
        have hw2 : w1.heap.size ≤ w2.heap.size := HB2.out.size
        have HHN := Lib.hid h3
        go_upto_region 4 with (go_at_call 45; refine (three_no p k c R _ HOK.out HHN.out (HTW.out _ HB2.out) (HTT.out _ HB2.out)).mono ?_; rintro e w3 ⟨rfl, hB3⟩; have HB23 := Lib.hid hB3; have HB3 := Lib.hid (HB2.out.trans (hB3.mono hw2)); clear hB3)
        clear h2 h3
        have hw3 : w1.heap.size ≤ w3.heap.size := HB3.out.size
        have HX : Hid (BoxN (w3.alloc (.cells #[.int .i64 0, .int .i64 0, .int .i64 0, .int .i64 0] 45)) w3.heap.size 45 #[.int .i64 0, .int .i64 0, .int .i64 0, .int .i64 0]) := BoxN.new rfl
        have HB3a : Hid (Below w1.heap.size w1 (w3.alloc (.cells #[.int .i64 0, .int .i64 0, .int .i64 0, .int .i64 0] 45))) := HB3.out.alloc hw3 _
        have HB2a : Hid (Below w2.heap.size w2 (w3.alloc (.cells #[.int .i64 0, .int .i64 0, .int .i64 0, .int .i64 0] 45))) := HB23.out.alloc HB23.out.size _
        generalize w3.alloc (.cells #[.int .i64 0, .int .i64 0, .int .i64 0, .int .i64 0] 45) = V at *
        obtain ⟨b7, hb7⟩ : ∃ b7, Hid (b7 = w3.heap.size) := ⟨_, rfl⟩
        rw [← hb7.out] at HX ⊢
        have hxV := HX.out.lt
        have hwV : w1.heap.size ≤ V.heap.size := HB3a.out.size
        obtain ⟨L, hL⟩ := sets_ex k R
        have HL := Lib.hid hL
        have HWK := Lib.hid hW
        clear hL
        go_upto_region 5 with (go_at_call 46; refine (lev_some p k c R L _ HOK.out HWK.out HL.out (HTT.out _ HB3a.out)).mono ?_; rintro e w4 ⟨v4, rfl, hq4, hB4⟩; obtain ⟨p4, c4, rfl⟩ := hq4.isSlice; have HQ4 := Lib.hid hq4; have HX4 := Lib.hid (HX.out.below hB4 hxV); have HB24 := Lib.hid (HB2a.out.trans (hB4.mono HB2a.out.size)); have HB4 := Lib.hid (HB3a.out.trans (hB4.mono hwV)); clear hq4 hB4)
        clear hW HX HB3a hxV
        have hx4 := HX4.out.lt
        have hw4 : w1.heap.size ≤ w4.heap.size := HB4.out.size
        go_upto_region 6 with (go_at_call 26; refine (HHAS.out _ HB4.out).mono ?_; rintro e w5 ⟨rfl, hB5⟩; have HQ5 := Lib.hid (HQ4.out.below hB5 (fun kk e => (HQ4.out.lt kk e).2)); have HX5 := Lib.hid (HX4.out.below hB5 hx4); have HB25 := Lib.hid (HB24.out.trans (hB5.mono HB24.out.size)); have HB5 := Lib.hid (HB4.out.trans (hB5.mono hw4)); clear hB5)
        clear HX4 hx4 HB4 HHAS
        have d0 := HX5.out.cell 0
        have d1 := HX5.out.cell 1
        have d2 := HX5.out.cell 2
        have d3 := HX5.out.cell 3
        have hw5 : w1.heap.size ≤ w5.heap.size := HB5.out.size
        go_upto_region 18 with (fail)
        have HB6 := HB5
        have HQ6 := HQ5
        generalize w5 = w6 at *
        have hw6 : w1.heap.size ≤ w6.heap.size := HB6.out.size
        have HLV := Lib.hid (rLev_any p k c R w6 HOK.out (HTT.out _ HB6.out))
        go_upto_region 19 with (go_at_call 47; refine HLV.out.mono ?_; rintro e w7 ⟨⟨v7, f7, t7, h7⟩, hB7⟩; obtain ⟨rfl, hq7, hi7, he7⟩ := h7; obtain ⟨p7, c7, rfl⟩ := hq7.isSlice; have ht7 : t7 = true := hi7.2 HWK.out; subst ht7; have HS4 : Hid (SrcI w7 p4 k (fun x => ((lftS L (bef k R x) : Nat) : Int))) := (HQ6.out.srcI (ivI_get _ k)).below hB7 (Nat.le_refl _); have HS7 : Hid (SrcI w7 p7 k (fun x => ((lftS L (bef k R x) : Nat) : Int))) := (by rw [ivI_congr (fun j hj => by rw [he7 L HL.out HWK.out j hj] : ∀ j, j < k → ((f7 j : Nat) : Int) = ((lftS L (bef k R j) : Nat) : Int))] at hq7; exact hq7.srcI (ivI_get _ k)); have HB7 := Lib.hid (HB6.out.trans (hB7.mono hw6)); clear hq7 hi7 he7 hB7)
        have HIN := Lib.hid (ints_any p4 p7 k k k (fun x => ((lftS L (bef k R x) : Nat) : Int)) w7 (by omega) HS4.out HS7.out)
        have HIN2 := Lib.hid (ints_any p4 p7 k c4 c7 (fun x => ((lftS L (bef k R x) : Nat) : Int)) w7 (by omega) HS4.out HS7.out)
        clear HIN
        go_wp2_with (first
          | (go_at_call 35; refine HIN2.out.mono ?_; rintro e w8 ⟨rfl, z8, hz8⟩; subst hz8; have HB8 := Lib.hid (below_dr HB7.out z8))
          | (go_at_call 17; refine (awake_any _ (HTW.out _ HB8.out)).mono ?_; rintro e w9 ⟨rfl, hB9⟩; have HB9 := Lib.hid (HB8.out.trans (hB9.mono HB8.out.size)); clear hB9))
        go_ret
        exact ⟨rfl, HB1.out.trans (HB9.out.mono hsz1)⟩
      · skip
        have HHAS := Lib.hid (fun W (hW : Below w1.heap.size w1 W) => has_at p k c R true false W HOK.out (⟨fun _ => h2, fun _ => rfl⟩) (⟨fun h => (by cases h), fun h => absurd h h3⟩) (HTT.out W hW))
        have HH : Hid (HasTwo k R ∨ HasThree k R) := .inl h2
        go_upto_region 3 with (go_at_call 44; refine (pos_none p k c R _ HOK.out HH.out (HTW.out _ HR.out) (HTT.out _ HR.out)).mono ?_; rintro e w2 ⟨rfl, hB2⟩; have HB2 := Lib.hid hB2; clear hB2)
        have hw2 : w1.heap.size ≤ w2.heap.size := HB2.out.size
        have HHN := Lib.hid h3
        go_upto_region 4 with (go_at_call 45; refine (three_no p k c R _ HOK.out HHN.out (HTW.out _ HB2.out) (HTT.out _ HB2.out)).mono ?_; rintro e w3 ⟨rfl, hB3⟩; have HB23 := Lib.hid hB3; have HB3 := Lib.hid (HB2.out.trans (hB3.mono hw2)); clear hB3)
        clear h2 h3
        have hw3 : w1.heap.size ≤ w3.heap.size := HB3.out.size
        have HX : Hid (BoxN (w3.alloc (.cells #[.int .i64 0, .int .i64 0, .int .i64 0, .int .i64 0] 45)) w3.heap.size 45 #[.int .i64 0, .int .i64 0, .int .i64 0, .int .i64 0]) := BoxN.new rfl
        have HB3a : Hid (Below w1.heap.size w1 (w3.alloc (.cells #[.int .i64 0, .int .i64 0, .int .i64 0, .int .i64 0] 45))) := HB3.out.alloc hw3 _
        have HB2a : Hid (Below w2.heap.size w2 (w3.alloc (.cells #[.int .i64 0, .int .i64 0, .int .i64 0, .int .i64 0] 45))) := HB23.out.alloc HB23.out.size _
        generalize w3.alloc (.cells #[.int .i64 0, .int .i64 0, .int .i64 0, .int .i64 0] 45) = V at *
        obtain ⟨b7, hb7⟩ : ∃ b7, Hid (b7 = w3.heap.size) := ⟨_, rfl⟩
        rw [← hb7.out] at HX ⊢
        have hxV := HX.out.lt
        have hwV : w1.heap.size ≤ V.heap.size := HB3a.out.size
        have HWK := Lib.hid hW
        go_upto_region 5 with (go_at_call 46; refine (lev_none p k c R _ HOK.out HWK.out (HTT.out _ HB3a.out)).mono ?_; rintro e w4 ⟨rfl, hB4⟩; have HX4 := Lib.hid (HX.out.below hB4 hxV); have HB24 := Lib.hid (HB2a.out.trans (hB4.mono HB2a.out.size)); have HB4 := Lib.hid (HB3a.out.trans (hB4.mono hwV)); clear hB4)
        clear hW HX HB3a hxV
        have hx4 := HX4.out.lt
        have hw4 : w1.heap.size ≤ w4.heap.size := HB4.out.size
        go_upto_region 6 with (go_at_call 26; refine (HHAS.out _ HB4.out).mono ?_; rintro e w5 ⟨rfl, hB5⟩; have HX5 := Lib.hid (HX4.out.below hB5 hx4); have HB25 := Lib.hid (HB24.out.trans (hB5.mono HB24.out.size)); have HB5 := Lib.hid (HB4.out.trans (hB5.mono hw4)); clear hB5)
        clear HX4 hx4 HB4 HHAS
        have d0 := HX5.out.cell 0
        have d1 := HX5.out.cell 1
        have d2 := HX5.out.cell 2
        have d3 := HX5.out.cell 3
        have hw5 : w1.heap.size ≤ w5.heap.size := HB5.out.size
        go_upto_region 18 with (fail)
        have HB6 := HB5
        generalize w5 = w6 at *
        have hw6 : w1.heap.size ≤ w6.heap.size := HB6.out.size
        have HLV := Lib.hid (rLev_any p k c R w6 HOK.out (HTT.out _ HB6.out))
        go_upto_region 19 with (go_at_call 47; refine HLV.out.mono ?_; rintro e w7 ⟨⟨v7, f7, t7, h7⟩, hB7⟩; obtain ⟨rfl, hq7, hi7, he7⟩ := h7; obtain ⟨p7, c7, rfl⟩ := hq7.isSlice; have ht7 : t7 = false := bfalse (fun e => HWK.out (hi7.1 e)); subst ht7; have HB7 := Lib.hid (HB6.out.trans (hB7.mono hw6)); clear hq7 hi7 he7 hB7)
        go_wp2_with (go_at_call 17; refine (awake_any _ (HTW.out _ HB7.out)).mono ?_; rintro e w9 ⟨rfl, hB9⟩; have HB9 := Lib.hid (HB7.out.trans (hB9.mono HB7.out.size)); clear hB9)
        go_ret
        exact ⟨rfl, HB1.out.trans (HB9.out.mono hsz1)⟩
  · skip
    by_cases h3 : HasThree k R
    · skip
      by_cases hW : Weak k R
      · skip
        have HHAS := Lib.hid (fun W (hW : Below w1.heap.size w1 W) => has_at p k c R false true W HOK.out (⟨fun h => (by cases h), fun h => absurd h h2⟩) (⟨fun _ => h3, fun _ => rfl⟩) (HTT.out W hW))
        have HH : Hid (HasTwo k R ∨ HasThree k R) := .inr h3
        go_upto_region 3 with (go_at_call 44; refine (pos_none p k c R _ HOK.out HH.out (HTW.out _ HR.out) (HTT.out _ HR.out)).mono ?_; rintro e w2 ⟨rfl, hB2⟩; have HB2 := Lib.hid hB2; clear hB2)
        have hw2 : w1.heap.size ≤ w2.heap.size := HB2.out.size
        have HH3 := Lib.hid h3
        go_upto_region 4 with (go_at_call 45; refine (three_yes p k c R _ HOK.out HH3.out (HTW.out _ HB2.out) (HTT.out _ HB2.out)).mono ?_; rintro e w3 ⟨x, y, z, u, rfl, hth, hB3⟩; have HTH := Lib.hid hth; have HB23 := Lib.hid hB3; have HB3 := Lib.hid (HB2.out.trans (hB3.mono hw2)); clear hth hB3)
        clear h2 h3
        have hw3 : w1.heap.size ≤ w3.heap.size := HB3.out.size
        have HX : Hid (BoxN (w3.alloc (.cells #[.int .i64 (x : Int), .int .i64 (y : Int), .int .i64 (z : Int), .int .i64 (u : Int)] 45)) w3.heap.size 45 #[.int .i64 (x : Int), .int .i64 (y : Int), .int .i64 (z : Int), .int .i64 (u : Int)]) := BoxN.new rfl
        have HB3a : Hid (Below w1.heap.size w1 (w3.alloc (.cells #[.int .i64 (x : Int), .int .i64 (y : Int), .int .i64 (z : Int), .int .i64 (u : Int)] 45))) := HB3.out.alloc hw3 _
        have HB2a : Hid (Below w2.heap.size w2 (w3.alloc (.cells #[.int .i64 (x : Int), .int .i64 (y : Int), .int .i64 (z : Int), .int .i64 (u : Int)] 45))) := HB23.out.alloc HB23.out.size _
        generalize w3.alloc (.cells #[.int .i64 (x : Int), .int .i64 (y : Int), .int .i64 (z : Int), .int .i64 (u : Int)] 45) = V at *
        obtain ⟨b7, hb7⟩ : ∃ b7, Hid (b7 = w3.heap.size) := ⟨_, rfl⟩
        rw [← hb7.out] at HX ⊢
        have hxV := HX.out.lt
        have hwV : w1.heap.size ≤ V.heap.size := HB3a.out.size
        obtain ⟨L, hL⟩ := sets_ex k R
        have HL := Lib.hid hL
        have HWK := Lib.hid hW
        clear hL
        go_upto_region 5 with (go_at_call 46; refine (lev_some p k c R L _ HOK.out HWK.out HL.out (HTT.out _ HB3a.out)).mono ?_; rintro e w4 ⟨v4, rfl, hq4, hB4⟩; obtain ⟨p4, c4, rfl⟩ := hq4.isSlice; have HQ4 := Lib.hid hq4; have HX4 := Lib.hid (HX.out.below hB4 hxV); have HB24 := Lib.hid (HB2a.out.trans (hB4.mono HB2a.out.size)); have HB4 := Lib.hid (HB3a.out.trans (hB4.mono hwV)); clear hq4 hB4)
        clear hW HX HB3a hxV
        have hx4 := HX4.out.lt
        have hw4 : w1.heap.size ≤ w4.heap.size := HB4.out.size
        go_upto_region 6 with (go_at_call 26; refine (HHAS.out _ HB4.out).mono ?_; rintro e w5 ⟨rfl, hB5⟩; have HQ5 := Lib.hid (HQ4.out.below hB5 (fun kk e => (HQ4.out.lt kk e).2)); have HX5 := Lib.hid (HX4.out.below hB5 hx4); have HB25 := Lib.hid (HB24.out.trans (hB5.mono HB24.out.size)); have HB5 := Lib.hid (HB4.out.trans (hB5.mono hw4)); clear hB5)
        clear HX4 hx4 HB4 HHAS
        have d0 := HX5.out.cell 0
        have d1 := HX5.out.cell 1
        have d2 := HX5.out.cell 2
        have d3 := HX5.out.cell 3
        have hw5 : w1.heap.size ≤ w5.heap.size := HB5.out.size
        go_upto_region 18 with (go_at_call 41; refine (rTO_yes p k c R x y z u _ HOK.out HTH.out (HTT.out _ HB5.out)).mono ?_; rintro e w6 ⟨rfl, hB6⟩; have HQ6 := Lib.hid (HQ5.out.below hB6 (fun kk e => (HQ5.out.lt kk e).2)); have HB6 := Lib.hid (HB5.out.trans (hB6.mono hw5)); clear hB6)
        have hw6 : w1.heap.size ≤ w6.heap.size := HB6.out.size
        have HLV := Lib.hid (rLev_any p k c R w6 HOK.out (HTT.out _ HB6.out))
        go_upto_region 19 with (go_at_call 47; refine HLV.out.mono ?_; rintro e w7 ⟨⟨v7, f7, t7, h7⟩, hB7⟩; obtain ⟨rfl, hq7, hi7, he7⟩ := h7; obtain ⟨p7, c7, rfl⟩ := hq7.isSlice; have ht7 : t7 = true := hi7.2 HWK.out; subst ht7; have HS4 : Hid (SrcI w7 p4 k (fun x => ((lftS L (bef k R x) : Nat) : Int))) := (HQ6.out.srcI (ivI_get _ k)).below hB7 (Nat.le_refl _); have HS7 : Hid (SrcI w7 p7 k (fun x => ((lftS L (bef k R x) : Nat) : Int))) := (by rw [ivI_congr (fun j hj => by rw [he7 L HL.out HWK.out j hj] : ∀ j, j < k → ((f7 j : Nat) : Int) = ((lftS L (bef k R j) : Nat) : Int))] at hq7; exact hq7.srcI (ivI_get _ k)); have HB7 := Lib.hid (HB6.out.trans (hB7.mono hw6)); clear hq7 hi7 he7 hB7)
        have HIN := Lib.hid (ints_any p4 p7 k k k (fun x => ((lftS L (bef k R x) : Nat) : Int)) w7 (by omega) HS4.out HS7.out)
        have HIN2 := Lib.hid (ints_any p4 p7 k c4 c7 (fun x => ((lftS L (bef k R x) : Nat) : Int)) w7 (by omega) HS4.out HS7.out)
        clear HIN
        go_wp2_with (first
          | (go_at_call 35; refine HIN2.out.mono ?_; rintro e w8 ⟨rfl, z8, hz8⟩; subst hz8; have HB8 := Lib.hid (below_dr HB7.out z8))
          | (go_at_call 17; refine (awake_any _ (HTW.out _ HB8.out)).mono ?_; rintro e w9 ⟨rfl, hB9⟩; have HB9 := Lib.hid (HB8.out.trans (hB9.mono HB8.out.size)); clear hB9))
        go_ret
        exact ⟨rfl, HB1.out.trans (HB9.out.mono hsz1)⟩
      · skip
        have HHAS := Lib.hid (fun W (hW : Below w1.heap.size w1 W) => has_at p k c R false true W HOK.out (⟨fun h => (by cases h), fun h => absurd h h2⟩) (⟨fun _ => h3, fun _ => rfl⟩) (HTT.out W hW))
        have HH : Hid (HasTwo k R ∨ HasThree k R) := .inr h3
        go_upto_region 3 with (go_at_call 44; refine (pos_none p k c R _ HOK.out HH.out (HTW.out _ HR.out) (HTT.out _ HR.out)).mono ?_; rintro e w2 ⟨rfl, hB2⟩; have HB2 := Lib.hid hB2; clear hB2)
        have hw2 : w1.heap.size ≤ w2.heap.size := HB2.out.size
        have HH3 := Lib.hid h3
        go_upto_region 4 with (go_at_call 45; refine (three_yes p k c R _ HOK.out HH3.out (HTW.out _ HB2.out) (HTT.out _ HB2.out)).mono ?_; rintro e w3 ⟨x, y, z, u, rfl, hth, hB3⟩; have HTH := Lib.hid hth; have HB23 := Lib.hid hB3; have HB3 := Lib.hid (HB2.out.trans (hB3.mono hw2)); clear hth hB3)
        clear h2 h3
        have hw3 : w1.heap.size ≤ w3.heap.size := HB3.out.size
        have HX : Hid (BoxN (w3.alloc (.cells #[.int .i64 (x : Int), .int .i64 (y : Int), .int .i64 (z : Int), .int .i64 (u : Int)] 45)) w3.heap.size 45 #[.int .i64 (x : Int), .int .i64 (y : Int), .int .i64 (z : Int), .int .i64 (u : Int)]) := BoxN.new rfl
        have HB3a : Hid (Below w1.heap.size w1 (w3.alloc (.cells #[.int .i64 (x : Int), .int .i64 (y : Int), .int .i64 (z : Int), .int .i64 (u : Int)] 45))) := HB3.out.alloc hw3 _
        have HB2a : Hid (Below w2.heap.size w2 (w3.alloc (.cells #[.int .i64 (x : Int), .int .i64 (y : Int), .int .i64 (z : Int), .int .i64 (u : Int)] 45))) := HB23.out.alloc HB23.out.size _
        generalize w3.alloc (.cells #[.int .i64 (x : Int), .int .i64 (y : Int), .int .i64 (z : Int), .int .i64 (u : Int)] 45) = V at *
        obtain ⟨b7, hb7⟩ : ∃ b7, Hid (b7 = w3.heap.size) := ⟨_, rfl⟩
        rw [← hb7.out] at HX ⊢
        have hxV := HX.out.lt
        have hwV : w1.heap.size ≤ V.heap.size := HB3a.out.size
        have HWK := Lib.hid hW
        go_upto_region 5 with (go_at_call 46; refine (lev_none p k c R _ HOK.out HWK.out (HTT.out _ HB3a.out)).mono ?_; rintro e w4 ⟨rfl, hB4⟩; have HX4 := Lib.hid (HX.out.below hB4 hxV); have HB24 := Lib.hid (HB2a.out.trans (hB4.mono HB2a.out.size)); have HB4 := Lib.hid (HB3a.out.trans (hB4.mono hwV)); clear hB4)
        clear hW HX HB3a hxV
        have hx4 := HX4.out.lt
        have hw4 : w1.heap.size ≤ w4.heap.size := HB4.out.size
        go_upto_region 6 with (go_at_call 26; refine (HHAS.out _ HB4.out).mono ?_; rintro e w5 ⟨rfl, hB5⟩; have HX5 := Lib.hid (HX4.out.below hB5 hx4); have HB25 := Lib.hid (HB24.out.trans (hB5.mono HB24.out.size)); have HB5 := Lib.hid (HB4.out.trans (hB5.mono hw4)); clear hB5)
        clear HX4 hx4 HB4 HHAS
        have d0 := HX5.out.cell 0
        have d1 := HX5.out.cell 1
        have d2 := HX5.out.cell 2
        have d3 := HX5.out.cell 3
        have hw5 : w1.heap.size ≤ w5.heap.size := HB5.out.size
        go_upto_region 18 with (go_at_call 41; refine (rTO_yes p k c R x y z u _ HOK.out HTH.out (HTT.out _ HB5.out)).mono ?_; rintro e w6 ⟨rfl, hB6⟩; have HB6 := Lib.hid (HB5.out.trans (hB6.mono hw5)); clear hB6)
        have hw6 : w1.heap.size ≤ w6.heap.size := HB6.out.size
        have HLV := Lib.hid (rLev_any p k c R w6 HOK.out (HTT.out _ HB6.out))
        go_upto_region 19 with (go_at_call 47; refine HLV.out.mono ?_; rintro e w7 ⟨⟨v7, f7, t7, h7⟩, hB7⟩; obtain ⟨rfl, hq7, hi7, he7⟩ := h7; obtain ⟨p7, c7, rfl⟩ := hq7.isSlice; have ht7 : t7 = false := bfalse (fun e => HWK.out (hi7.1 e)); subst ht7; have HB7 := Lib.hid (HB6.out.trans (hB7.mono hw6)); clear hq7 hi7 he7 hB7)
        go_wp2_with (go_at_call 17; refine (awake_any _ (HTW.out _ HB7.out)).mono ?_; rintro e w9 ⟨rfl, hB9⟩; have HB9 := Lib.hid (HB7.out.trans (hB9.mono HB7.out.size)); clear hB9)
        go_ret
        exact ⟨rfl, HB1.out.trans (HB9.out.mono hsz1)⟩
    · skip
      by_cases hW : Weak k R
      · skip
        have HHAS := Lib.hid (fun W (hW : Below w1.heap.size w1 W) => has_at p k c R false false W HOK.out (⟨fun h => (by cases h), fun h => absurd h h2⟩) (⟨fun h => (by cases h), fun h => absurd h h3⟩) (HTT.out W hW))
        have HH2 := Lib.hid h2
        have HH3 := Lib.hid h3
        go_upto_region 3 with (go_at_call 44; refine (pos_some p k c R _ HOK.out HH2.out HH3.out (HTW.out _ HR.out) (HTT.out _ HR.out)).mono ?_; rintro e w2 ⟨g, f, rfl, hrow, hle, hrep, hB2⟩; have HROW := Lib.hid hrow; have HLE := Lib.hid hle; have HREP := Lib.hid hrep; have HB2 := Lib.hid hB2; clear hrow hle hrep hB2)
        have hw2 : w1.heap.size ≤ w2.heap.size := HB2.out.size
        have HHN := Lib.hid h3
        go_upto_region 4 with (go_at_call 45; refine (three_no p k c R _ HOK.out HHN.out (HTW.out _ HB2.out) (HTT.out _ HB2.out)).mono ?_; rintro e w3 ⟨rfl, hB3⟩; have HB23 := Lib.hid hB3; have HB3 := Lib.hid (HB2.out.trans (hB3.mono hw2)); clear hB3)
        clear h2 h3
        have hw3 : w1.heap.size ≤ w3.heap.size := HB3.out.size
        have HX : Hid (BoxN (w3.alloc (.cells #[.int .i64 0, .int .i64 0, .int .i64 0, .int .i64 0] 45)) w3.heap.size 45 #[.int .i64 0, .int .i64 0, .int .i64 0, .int .i64 0]) := BoxN.new rfl
        have HB3a : Hid (Below w1.heap.size w1 (w3.alloc (.cells #[.int .i64 0, .int .i64 0, .int .i64 0, .int .i64 0] 45))) := HB3.out.alloc hw3 _
        have HB2a : Hid (Below w2.heap.size w2 (w3.alloc (.cells #[.int .i64 0, .int .i64 0, .int .i64 0, .int .i64 0] 45))) := HB23.out.alloc HB23.out.size _
        generalize w3.alloc (.cells #[.int .i64 0, .int .i64 0, .int .i64 0, .int .i64 0] 45) = V at *
        obtain ⟨b7, hb7⟩ : ∃ b7, Hid (b7 = w3.heap.size) := ⟨_, rfl⟩
        rw [← hb7.out] at HX ⊢
        have hxV := HX.out.lt
        have hwV : w1.heap.size ≤ V.heap.size := HB3a.out.size
        obtain ⟨L, hL⟩ := sets_ex k R
        have HL := Lib.hid hL
        have HWK := Lib.hid hW
        clear hL
        go_upto_region 5 with (go_at_call 46; refine (lev_some p k c R L _ HOK.out HWK.out HL.out (HTT.out _ HB3a.out)).mono ?_; rintro e w4 ⟨v4, rfl, hq4, hB4⟩; obtain ⟨p4, c4, rfl⟩ := hq4.isSlice; have HQ4 := Lib.hid hq4; have HX4 := Lib.hid (HX.out.below hB4 hxV); have HB24 := Lib.hid (HB2a.out.trans (hB4.mono HB2a.out.size)); have HB4 := Lib.hid (HB3a.out.trans (hB4.mono hwV)); clear hq4 hB4)
        clear hW HX HB3a hxV
        have hx4 := HX4.out.lt
        have hw4 : w1.heap.size ≤ w4.heap.size := HB4.out.size
        go_upto_region 6 with (go_at_call 26; refine (HHAS.out _ HB4.out).mono ?_; rintro e w5 ⟨rfl, hB5⟩; have HQ5 := Lib.hid (HQ4.out.below hB5 (fun kk e => (HQ4.out.lt kk e).2)); have HX5 := Lib.hid (HX4.out.below hB5 hx4); have HB25 := Lib.hid (HB24.out.trans (hB5.mono HB24.out.size)); have HB5 := Lib.hid (HB4.out.trans (hB5.mono hw4)); clear hB5)
        clear HX4 hx4 HB4 HHAS
        have d0 := HX5.out.cell 0
        have d1 := HX5.out.cell 1
        have d2 := HX5.out.cell 2
        have d3 := HX5.out.cell 3
        have hw5 : w1.heap.size ≤ w5.heap.size := HB5.out.size
        have HS5 : Hid (SrcI w5 (some ⟨g, 0, none⟩) k (fun x => ((f x : Nat) : Int))) := SrcI.below (HROW.out.q (base := 0) (Nat.zero_le _) (by unfold maxLen; omega) |>.srcI (ivI_get _ k)) HB25.out (Nat.le_refl _)
        have HRP := Lib.hid (rRep_any p (some ⟨g, 0, none⟩) k c k k R (fun x => ((f x : Nat) : Int)) (k : Int) w5 (by omega) (HTT.out _ HB5.out) HS5.out)
        go_upto_region 14 with (go_at_call 43; refine HRP.out.mono ?_; rintro e w6 ⟨h6, z0, hz⟩; replace h6 := h6.dec (b := true) ⟨fun _ => HREP.out, fun _ => rfl⟩; subst h6; subst hz; have HQ6 := Lib.hid (HQ5.out.below (below_dr (Below.refl _ _) z0) (fun kk e => (HQ5.out.lt kk e).2)); have HB6 := Lib.hid (below_dr HB5.out z0); have HS6 := Lib.hid (SrcI.below HS5.out (below_dr (Below.refl _ _) z0) (Nat.le_refl _)))
        have HB6h := Lib.hid HB6.out
        generalize w5.drewN z0 = w6 at *
        go_loopw [14] (fun s14 wr => ∃ i : Nat, i ≤ k ∧ s14 = .int .i64 (i : Int) ∧ Hid (wr = w6)) (fun s14 _ => k - (intOf s14).toNat)
        case atStart => exact ⟨0, by omega, rfl, rfl⟩
        case round =>
          obtain ⟨i, hi, rfl, hw⟩ := hrel
          rw [hw.out]
          clear hw
          by_cases hik : i < k
          · have g1 : (i : Int) < (k : Int) := by omega
            have g2 : (0 : Int) ≤ (i : Int) := by omega
            obtain ⟨b, ob, e, hb, h1⟩ := HS6.out (by omega)
            cases e
            have k1 : w6.cell? ⟨g, i, none⟩ = some (.int .i64 (f i : Int)) := by have := h1 i hik; rwa [Nat.zero_add] at this
            have hfi := HLE.out i hik
            clear h1
            generalize f i = fi at *
            have q2 : decide ((fi : Int) < -1000) = false := decide_eq_false (by omega)
            have q3 : ¬ (1000 : Int) < (fi : Int) := by omega
            have q4 : ¬ (fi : Int) < -1000 := by omega
            go_wp2
            exact ⟨⟨i + 1, by omega, int_eq (by omega), (by unfold Hid; trivial)⟩, by simp [intOf]; omega⟩
          · have g1 : ¬ (i : Int) < (k : Int) := by omega
            go_upto_region 18 with (fail)
            have hw6 : w1.heap.size ≤ w6.heap.size := HB6.out.size
            have HLV := Lib.hid (rLev_any p k c R w6 HOK.out (HTT.out _ HB6.out))
            go_upto_region 19 with (go_at_call 47; refine HLV.out.mono ?_; rintro e w7 ⟨⟨v7, f7, t7, h7⟩, hB7⟩; obtain ⟨rfl, hq7, hi7, he7⟩ := h7; obtain ⟨p7, c7, rfl⟩ := hq7.isSlice; have ht7 : t7 = true := hi7.2 HWK.out; subst ht7; have HS4 : Hid (SrcI w7 p4 k (fun x => ((lftS L (bef k R x) : Nat) : Int))) := (HQ6.out.srcI (ivI_get _ k)).below hB7 (Nat.le_refl _); have HS7 : Hid (SrcI w7 p7 k (fun x => ((lftS L (bef k R x) : Nat) : Int))) := (by rw [ivI_congr (fun j hj => by rw [he7 L HL.out HWK.out j hj] : ∀ j, j < k → ((f7 j : Nat) : Int) = ((lftS L (bef k R j) : Nat) : Int))] at hq7; exact hq7.srcI (ivI_get _ k)); have HB7 := Lib.hid (HB6.out.trans (hB7.mono hw6)); clear hq7 hi7 he7 hB7)
            have HIN := Lib.hid (ints_any p4 p7 k k k (fun x => ((lftS L (bef k R x) : Nat) : Int)) w7 (by omega) HS4.out HS7.out)
            have HIN2 := Lib.hid (ints_any p4 p7 k c4 c7 (fun x => ((lftS L (bef k R x) : Nat) : Int)) w7 (by omega) HS4.out HS7.out)
            clear HIN
            go_wp2_with (first
              | (go_at_call 35; refine HIN2.out.mono ?_; rintro e w8 ⟨rfl, z8, hz8⟩; subst hz8; have HB8 := Lib.hid (below_dr HB7.out z8))
              | (go_at_call 17; refine (awake_any _ (HTW.out _ HB8.out)).mono ?_; rintro e w9 ⟨rfl, hB9⟩; have HB9 := Lib.hid (HB8.out.trans (hB9.mono HB8.out.size)); clear hB9))
            go_ret
            exact ⟨rfl, HB1.out.trans (HB9.out.mono hsz1)⟩
      · skip
        have HHAS := Lib.hid (fun W (hW : Below w1.heap.size w1 W) => has_at p k c R false false W HOK.out (⟨fun h => (by cases h), fun h => absurd h h2⟩) (⟨fun h => (by cases h), fun h => absurd h h3⟩) (HTT.out W hW))
        have HH2 := Lib.hid h2
        have HH3 := Lib.hid h3
        go_upto_region 3 with (go_at_call 44; refine (pos_some p k c R _ HOK.out HH2.out HH3.out (HTW.out _ HR.out) (HTT.out _ HR.out)).mono ?_; rintro e w2 ⟨g, f, rfl, hrow, hle, hrep, hB2⟩; have HROW := Lib.hid hrow; have HLE := Lib.hid hle; have HREP := Lib.hid hrep; have HB2 := Lib.hid hB2; clear hrow hle hrep hB2)
        have hw2 : w1.heap.size ≤ w2.heap.size := HB2.out.size
        have HHN := Lib.hid h3
        go_upto_region 4 with (go_at_call 45; refine (three_no p k c R _ HOK.out HHN.out (HTW.out _ HB2.out) (HTT.out _ HB2.out)).mono ?_; rintro e w3 ⟨rfl, hB3⟩; have HB23 := Lib.hid hB3; have HB3 := Lib.hid (HB2.out.trans (hB3.mono hw2)); clear hB3)
        clear h2 h3
        have hw3 : w1.heap.size ≤ w3.heap.size := HB3.out.size
        have HX : Hid (BoxN (w3.alloc (.cells #[.int .i64 0, .int .i64 0, .int .i64 0, .int .i64 0] 45)) w3.heap.size 45 #[.int .i64 0, .int .i64 0, .int .i64 0, .int .i64 0]) := BoxN.new rfl
        have HB3a : Hid (Below w1.heap.size w1 (w3.alloc (.cells #[.int .i64 0, .int .i64 0, .int .i64 0, .int .i64 0] 45))) := HB3.out.alloc hw3 _
        have HB2a : Hid (Below w2.heap.size w2 (w3.alloc (.cells #[.int .i64 0, .int .i64 0, .int .i64 0, .int .i64 0] 45))) := HB23.out.alloc HB23.out.size _
        generalize w3.alloc (.cells #[.int .i64 0, .int .i64 0, .int .i64 0, .int .i64 0] 45) = V at *
        obtain ⟨b7, hb7⟩ : ∃ b7, Hid (b7 = w3.heap.size) := ⟨_, rfl⟩
        rw [← hb7.out] at HX ⊢
        have hxV := HX.out.lt
        have hwV : w1.heap.size ≤ V.heap.size := HB3a.out.size
        have HWK := Lib.hid hW
        go_upto_region 5 with (go_at_call 46; refine (lev_none p k c R _ HOK.out HWK.out (HTT.out _ HB3a.out)).mono ?_; rintro e w4 ⟨rfl, hB4⟩; have HX4 := Lib.hid (HX.out.below hB4 hxV); have HB24 := Lib.hid (HB2a.out.trans (hB4.mono HB2a.out.size)); have HB4 := Lib.hid (HB3a.out.trans (hB4.mono hwV)); clear hB4)
        clear hW HX HB3a hxV
        have hx4 := HX4.out.lt
        have hw4 : w1.heap.size ≤ w4.heap.size := HB4.out.size
        go_upto_region 6 with (go_at_call 26; refine (HHAS.out _ HB4.out).mono ?_; rintro e w5 ⟨rfl, hB5⟩; have HX5 := Lib.hid (HX4.out.below hB5 hx4); have HB25 := Lib.hid (HB24.out.trans (hB5.mono HB24.out.size)); have HB5 := Lib.hid (HB4.out.trans (hB5.mono hw4)); clear hB5)
        clear HX4 hx4 HB4 HHAS
        have d0 := HX5.out.cell 0
        have d1 := HX5.out.cell 1
        have d2 := HX5.out.cell 2
        have d3 := HX5.out.cell 3
        have hw5 : w1.heap.size ≤ w5.heap.size := HB5.out.size
        have HS5 : Hid (SrcI w5 (some ⟨g, 0, none⟩) k (fun x => ((f x : Nat) : Int))) := SrcI.below (HROW.out.q (base := 0) (Nat.zero_le _) (by unfold maxLen; omega) |>.srcI (ivI_get _ k)) HB25.out (Nat.le_refl _)
        have HRP := Lib.hid (rRep_any p (some ⟨g, 0, none⟩) k c k k R (fun x => ((f x : Nat) : Int)) (k : Int) w5 (by omega) (HTT.out _ HB5.out) HS5.out)
        go_upto_region 14 with (go_at_call 43; refine HRP.out.mono ?_; rintro e w6 ⟨h6, z0, hz⟩; replace h6 := h6.dec (b := true) ⟨fun _ => HREP.out, fun _ => rfl⟩; subst h6; subst hz; have HB6 := Lib.hid (below_dr HB5.out z0); have HS6 := Lib.hid (SrcI.below HS5.out (below_dr (Below.refl _ _) z0) (Nat.le_refl _)))
        have HB6h := Lib.hid HB6.out
        generalize w5.drewN z0 = w6 at *
        go_loopw [14] (fun s14 wr => ∃ i : Nat, i ≤ k ∧ s14 = .int .i64 (i : Int) ∧ Hid (wr = w6)) (fun s14 _ => k - (intOf s14).toNat)
        case atStart => exact ⟨0, by omega, rfl, rfl⟩
        case round =>
          obtain ⟨i, hi, rfl, hw⟩ := hrel
          rw [hw.out]
          clear hw
          by_cases hik : i < k
          · have g1 : (i : Int) < (k : Int) := by omega
            have g2 : (0 : Int) ≤ (i : Int) := by omega
            obtain ⟨b, ob, e, hb, h1⟩ := HS6.out (by omega)
            cases e
            have k1 : w6.cell? ⟨g, i, none⟩ = some (.int .i64 (f i : Int)) := by have := h1 i hik; rwa [Nat.zero_add] at this
            have hfi := HLE.out i hik
            clear h1
            generalize f i = fi at *
            have q2 : decide ((fi : Int) < -1000) = false := decide_eq_false (by omega)
            have q3 : ¬ (1000 : Int) < (fi : Int) := by omega
            have q4 : ¬ (fi : Int) < -1000 := by omega
            go_wp2
            exact ⟨⟨i + 1, by omega, int_eq (by omega), (by unfold Hid; trivial)⟩, by simp [intOf]; omega⟩
          · have g1 : ¬ (i : Int) < (k : Int) := by omega
            go_upto_region 18 with (fail)
            have hw6 : w1.heap.size ≤ w6.heap.size := HB6.out.size
            have HLV := Lib.hid (rLev_any p k c R w6 HOK.out (HTT.out _ HB6.out))
            go_upto_region 19 with (go_at_call 47; refine HLV.out.mono ?_; rintro e w7 ⟨⟨v7, f7, t7, h7⟩, hB7⟩; obtain ⟨rfl, hq7, hi7, he7⟩ := h7; obtain ⟨p7, c7, rfl⟩ := hq7.isSlice; have ht7 : t7 = false := bfalse (fun e => HWK.out (hi7.1 e)); subst ht7; have HB7 := Lib.hid (HB6.out.trans (hB7.mono hw6)); clear hq7 hi7 he7 hB7)
            go_wp2_with (go_at_call 17; refine (awake_any _ (HTW.out _ HB7.out)).mono ?_; rintro e w9 ⟨rfl, hB9⟩; have HB9 := Lib.hid (HB7.out.trans (hB9.mono HB7.out.size)); clear hB9)
            go_ret
            exact ⟨rfl, HB1.out.trans (HB9.out.mono hsz1)⟩
end Go.Proofs.YtgpijajgaclhfaaDoor
