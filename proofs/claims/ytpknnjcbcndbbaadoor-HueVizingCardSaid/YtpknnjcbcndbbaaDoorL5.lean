/- HueVizing: the walk of the law. -/
import Derived.Test.YtpknnjcbcndbbaaDoorE01
import Derived.Test.YtpknnjcbcndbbaaDoorA17
import Derived.Test.YtpknnjcbcndbbaaDoorA06
set_option linter.unusedVariables false
set_option linter.unusedSimpArgs false
namespace Go.Proofs.YtpknnjcbcndbbaaDoor
open Go.RowKit Go.Shelf

theorem Sets.keep {n : Nat} {w W : World} {a : Option Addr} {zs : List Nat} (h : Sets w a zs) (hB : Below n w W) (hn : w.heap.size ≤ n) : Sets W a zs := by
  obtain ⟨b, off, e, hb, hc⟩ := h
  exact ⟨b, off, e, Nat.lt_of_lt_of_le hb hB.size, fun j hj => (hB.cell (p := ⟨b, off + j, none⟩) (Nat.lt_of_lt_of_le hb hn)).trans (hc j hj)⟩
theorem hues_true (ea p : Option Addr) (ec m c : Nat) (f : Nat → Int) (w : World) (hm : m ≤ 1099511627776) (h : SrcI w p m f) (hf : ∀ j, 0 ≤ f j) :
    Calls Tryd.prog 17 #[.slice ea m ec, .slice p m c] w fun e w' => e = .returned (.bool true) ∧ w' = w :=
  (rhues_any ea p m ec m c f w hm h).mono fun e w' ⟨⟨b, h1, h2⟩, h3⟩ => by
    obtain rfl : b = true := h2.2 ⟨fun j _ => hf j, rfl⟩
    exact ⟨h1, h3⟩
theorem proper_true (a p : Option Addr) (cap c : Nat) (ps : List (Int × Int)) (f : Nat → Int) (w : World) (hm : ps.length ≤ 1099511627776) (hg : Pairs w a ps) (h : SrcI w p ps.length f) (hp : ProperI ps f) :
    Calls Tryd.prog 18 #[.slice a ps.length cap, .slice p ps.length c] w fun e w' => e = .returned (.bool true) ∧ Below w.heap.size w w' :=
  (rproper_any a p cap c ps f w hm hg h).mono fun e w' ⟨⟨b, h1, h2⟩, h3⟩ => by
    obtain rfl : b = true := h2.2 hp
    exact ⟨h1, h3⟩
theorem below_true (p : Option Addr) (m c : Nat) (most : Int) (f : Nat → Int) (w : World) (hm : m ≤ 1099511627776) (h : SrcI w p m f) (hf : ∀ j, j < m → f j < most) :
    Calls Tryd.prog 19 #[.slice p m c, .int .i64 most] w fun e w' => e = .returned (.bool true) ∧ w' = w :=
  (rbelow_any p m c most f w hm h).mono fun e w' ⟨⟨b, h1, h2⟩, h3⟩ => by
    obtain rfl : b = true := h2.2 hf
    exact ⟨h1, h3⟩
set_option maxRecDepth 100000 in
set_option maxHeartbeats 4000000 in
theorem law5 (n : Int) (a : Option Addr) (cap : Nat) (ps : List (Int × Int)) (w : World) (h : PairsIn w a cap ps) (hT : Tab w) :
    Calls Tryd.prog 5 #[.int .i64 n, .slice a ps.length cap] w fun e w' => e = .returned (.bool true) ∧ Below w.heap.size w w' := by
  have HTM := Lib.hid (tame_any n a cap ps 16 w h (by decide) (by decide))
  have HT := Lib.hid hT
  clear h hT
  go_enter Tryd.func5, Tryd.ntmps5
  go_upto_region 2 with (go_at_call 14; refine (HTM.out).mono ?_; rintro e w1 ⟨m, qs, a1, c1, rfl, hm, hG1, hB1⟩; have HG1 := Lib.hid hG1; have HB1 := Lib.hid hB1; clear hG1 hB1)
  have hm1 := HG1.out.n1
  go_upto_region 3 with (go_at_call 21; refine (of_any m a1 c1 qs w1 HG1.out).mono ?_; rintro e w2 ⟨b2, rfl, hb2, hS2, hB2⟩; have HS2 := Lib.hid hS2; have HG2 := Lib.hid (HG1.out.below hB2); have HB2 := Lib.hid (HB1.out.trans (hB2.mono HB1.out.size)); clear hS2 hB2)
  have HSM := Lib.hid (ofE_sm HG1.out.n2 HG1.out.ok)
  have HLN := Lib.hid (ofE_length m qs)
  have HU := Lib.hid (und_ofE HG1.out.ok)
  have HE := Lib.hid (edgesOK HG1.out.n2 HG1.out.ok)
  have hlen := HG1.out.hl
  have hdm := (dg_bounds HG1.out.n1 HG1.out.n2 HG1.out.ok).2
  have HVZ := Lib.hid (fun W hT hG => Vizing_ok m a1 c1 qs W hT hG)
  have HKO := Lib.hid (fun W hT hG => Konig_ok m a1 c1 qs W hT hG)
  obtain ⟨g, hg⟩ : ∃ g, Hid (g = ofE m qs) := ⟨_, rfl⟩
  rw [← hg.out] at HSM HLN HU HE HVZ HKO HS2 hdm
  obtain ⟨d, hd⟩ : ∃ d, Hid (d = dgTo g 16) := ⟨_, rfl⟩
  have HRD : Hid (Calls Tryd.prog 27 #[.slice (some ⟨b2, 0, none⟩) m m] w2 fun e w' => e = .returned (.int .i64 (d : Nat)) ∧ w' = w2) := by rw [hd.out]; exact rdegree_any m _ m g w2 HLN.out hm HSM.out HS2.out
  have hd15 : d ≤ 15 := by rw [hd.out]; omega
  clear hdm
  go_upto_region 4 with (go_at_call 27; refine (HRD.out).mono ?_; rintro e w' ⟨rfl, hw'⟩; subst hw'; try dsimp only)
  have HV := Lib.hid (HVZ.out w' (HT.out.below HB2.out (Nat.le_refl _)) HG2.out)
  go_upto_region 5 with (go_at_call 28; refine (HV.out).mono ?_; rintro e w3 ⟨v3, us3, col3, rfl, hq3, hB3, hi3, hm3, ha3⟩; obtain ⟨p3, c3, rfl⟩ := hq3.isSlice; have HQ3 := Lib.hid hq3; have HI3 := Lib.hid hi3; have HM3 := Lib.hid hm3; have HA3 := Lib.hid ha3; have HB3 := Lib.hid hB3; clear hq3 hi3 hm3 ha3 hB3)
  have HG3 := Lib.hid (HG2.out.below HB3.out)
  have HB13 := Lib.hid (HB2.out.trans (HB3.out.mono HB2.out.size))
  have HS3 := Lib.hid (HS2.out.keep HB3.out (Nat.le_refl _))
  have HF3 := Lib.hid (HQ3.out.srcI (hl_get col3 qs))
  have HP3 := Lib.hid (proper_of HE.out HI3.out HA3.out)
  have HL3 : Hid (∀ j, j < qs.length → hf col3 qs j < ((d + 1 : Nat) : Int)) := hf_below HA3.out fun q hq x hx => by rw [hd.out]; exact Nat.lt_succ_of_le (HM3.out _ _ hx)
  have HK := Lib.hid (HKO.out w3 (HT.out.below HB13.out (Nat.le_refl _)) HG3.out)
  clear HV HRD HKO HVZ
  go_upto_region 6 with (go_at_call 29; refine (HK.out).mono ?_; rintro e w4 ⟨hk, hB4⟩; have HB4 := Lib.hid hB4; clear hB4; rcases hk with ⟨rfl, hsd⟩ | ⟨v4, us4, col4, s4, rfl, hsd, hq4, hi4, hm4, ha4⟩)
  · have HSD := Lib.hid hsd
    clear hsd
    have HB14 := Lib.hid (HB13.out.trans (HB4.out.mono HB13.out.size))
    have HG4 := Lib.hid (HG3.out.below HB4.out)
    have HS4 := Lib.hid (HS3.out.keep HB4.out (Nat.le_refl _))
    have HF4 := Lib.hid (HF3.out.below HB4.out (Nat.le_refl _))
    have H17 : Hid (∀ W, Below w4.heap.size w4 W → Calls Tryd.prog 17 #[.slice a1 qs.length c1, .slice p3 qs.length c3] W fun e w' => e = .returned (.bool true) ∧ w' = W) := fun W hW => hues_true a1 p3 c1 qs.length c3 _ W hlen (HF4.out.below hW (Nat.le_refl _)) (hf_nonneg col3 qs)
    have H18 : Hid (∀ W, Below w4.heap.size w4 W → Calls Tryd.prog 18 #[.slice a1 qs.length c1, .slice p3 qs.length c3] W fun e w' => e = .returned (.bool true) ∧ Below W.heap.size W w') := fun W hW => proper_true a1 p3 c1 c3 qs _ W hlen (HG4.out.hg.below hW (Nat.le_refl _)) (HF4.out.below hW (Nat.le_refl _)) HP3.out
    have H19 : Hid (∀ W, Below w4.heap.size w4 W → Calls Tryd.prog 19 #[.slice p3 qs.length c3, .int .i64 ((d : Int) + 1)] W fun e w' => e = .returned (.bool true) ∧ w' = W) := fun W hW => below_true p3 qs.length c3 _ _ W hlen (HF4.out.below hW (Nat.le_refl _)) (fun j hj => by have := HL3.out j hj; omega)
    have HRS : Hid (∀ W, Below w4.heap.size w4 W → Calls Tryd.prog 30 #[.slice (some ⟨b2, 0, none⟩) m m] W fun e w' => SidesA g m e ∧ w' = W) := fun W hW => rsides_any m _ m g W HLN.out hm HU.out HSM.out (HS4.out.keep hW (Nat.le_refl _))
    have HAW : Hid (∀ W, Below w4.heap.size w4 W → Calls Tryd.prog 16 #[] W fun e w' => e = .returned (.bool true) ∧ Below W.heap.size W w') := fun W hW => awake_any W (HT.out.below (HB14.out.trans (hW.mono HB14.out.size)) (Nat.le_refl _))
    have HRF := Lib.hid (Below.refl w4.heap.size w4)
    clear HF3 HL3 HP3 HK HTM
    go_upto_region 8 with (first
      | (go_at_call 17; refine (H17.out w4 HRF.out).mono ?_; rintro e w5 ⟨rfl, hw5⟩; subst hw5; try dsimp only)
      | (go_at_call 18; refine (H18.out _ HRF.out).mono ?_; rintro e w6 ⟨rfl, hB6⟩; have HB6 := Lib.hid hB6; clear hB6)
      | (go_at_call 19; refine (H19.out _ HB6.out).mono ?_; rintro e w7 ⟨rfl, hw7⟩; subst hw7; try dsimp only))
    go_upto_region 9 with (go_at_call 30; refine (HRS.out _ HB6.out).mono ?_; rintro e w8 ⟨⟨s8, two8, rfl, hs8⟩, hw8⟩; subst hw8; obtain ⟨hse, hte⟩ := SidesR.unique HU.out HSD.out hs8; subst hse; subst hte; clear hs8; try dsimp only)
    go_wp2_with (go_at_call 16; refine (HAW.out _ HB6.out).mono ?_; rintro e w9 ⟨rfl, hB9⟩; have HB9 := Lib.hid hB9; clear hB9)
    go_ret
    exact ⟨rfl, (HB14.out.trans (HB6.out.mono HB14.out.size)).trans (HB9.out.mono (Nat.le_trans HB14.out.size HB6.out.size))⟩
  · obtain ⟨p4, c4, rfl⟩ := hq4.isSlice
    have HSD := Lib.hid hsd
    have HQ4 := Lib.hid hq4
    have HI4 := Lib.hid hi4
    have HM4 := Lib.hid hm4
    have HA4 := Lib.hid ha4
    clear hsd hq4 hi4 hm4 ha4
    have HB14 := Lib.hid (HB13.out.trans (HB4.out.mono HB13.out.size))
    have HG4 := Lib.hid (HG3.out.below HB4.out)
    have HS4 := Lib.hid (HS3.out.keep HB4.out (Nat.le_refl _))
    have HF4 := Lib.hid (HF3.out.below HB4.out (Nat.le_refl _))
    have H17 : Hid (∀ W, Below w4.heap.size w4 W → Calls Tryd.prog 17 #[.slice a1 qs.length c1, .slice p3 qs.length c3] W fun e w' => e = .returned (.bool true) ∧ w' = W) := fun W hW => hues_true a1 p3 c1 qs.length c3 _ W hlen (HF4.out.below hW (Nat.le_refl _)) (hf_nonneg col3 qs)
    have H18 : Hid (∀ W, Below w4.heap.size w4 W → Calls Tryd.prog 18 #[.slice a1 qs.length c1, .slice p3 qs.length c3] W fun e w' => e = .returned (.bool true) ∧ Below W.heap.size W w') := fun W hW => proper_true a1 p3 c1 c3 qs _ W hlen (HG4.out.hg.below hW (Nat.le_refl _)) (HF4.out.below hW (Nat.le_refl _)) HP3.out
    have H19 : Hid (∀ W, Below w4.heap.size w4 W → Calls Tryd.prog 19 #[.slice p3 qs.length c3, .int .i64 ((d : Int) + 1)] W fun e w' => e = .returned (.bool true) ∧ w' = W) := fun W hW => below_true p3 qs.length c3 _ _ W hlen (HF4.out.below hW (Nat.le_refl _)) (fun j hj => by have := HL3.out j hj; omega)
    have HRS : Hid (∀ W, Below w4.heap.size w4 W → Calls Tryd.prog 30 #[.slice (some ⟨b2, 0, none⟩) m m] W fun e w' => SidesA g m e ∧ w' = W) := fun W hW => rsides_any m _ m g W HLN.out hm HU.out HSM.out (HS4.out.keep hW (Nat.le_refl _))
    have HAW : Hid (∀ W, Below w4.heap.size w4 W → Calls Tryd.prog 16 #[] W fun e w' => e = .returned (.bool true) ∧ Below W.heap.size W w') := fun W hW => awake_any W (HT.out.below (HB14.out.trans (hW.mono HB14.out.size)) (Nat.le_refl _))
    have HRF := Lib.hid (Below.refl w4.heap.size w4)
    have HF5 := Lib.hid (HQ4.out.srcI (hl_get col4 qs))
    have HP5 := Lib.hid (proper_of HE.out HI4.out HA4.out)
    have HL5 : Hid (∀ j, j < qs.length → hf col4 qs j < (d : Int)) := hf_below HA4.out fun q hq x hx => by rw [hd.out]; exact HM4.out _ _ hx
    have K17 : Hid (∀ W, Below w4.heap.size w4 W → Calls Tryd.prog 17 #[.slice a1 qs.length c1, .slice p4 qs.length c4] W fun e w' => e = .returned (.bool true) ∧ w' = W) := fun W hW => hues_true a1 p4 c1 qs.length c4 _ W hlen (HF5.out.below hW (Nat.le_refl _)) (hf_nonneg col4 qs)
    have K18 : Hid (∀ W, Below w4.heap.size w4 W → Calls Tryd.prog 18 #[.slice a1 qs.length c1, .slice p4 qs.length c4] W fun e w' => e = .returned (.bool true) ∧ Below W.heap.size W w') := fun W hW => proper_true a1 p4 c1 c4 qs _ W hlen (HG4.out.hg.below hW (Nat.le_refl _)) (HF5.out.below hW (Nat.le_refl _)) HP5.out
    have K19 : Hid (∀ W, Below w4.heap.size w4 W → Calls Tryd.prog 19 #[.slice p4 qs.length c4, .int .i64 (d : Int)] W fun e w' => e = .returned (.bool true) ∧ w' = W) := fun W hW => below_true p4 qs.length c4 _ _ W hlen (HF5.out.below hW (Nat.le_refl _)) HL5.out
    clear HF3 HL3 HP3 HK HTM
    go_upto_region 8 with (first
      | (go_at_call 17; refine (H17.out w4 HRF.out).mono ?_; rintro e w5 ⟨rfl, hw5⟩; subst hw5; try dsimp only)
      | (go_at_call 18; refine (H18.out _ HRF.out).mono ?_; rintro e w6 ⟨rfl, hB6⟩; have HB6 := Lib.hid hB6; clear hB6)
      | (go_at_call 19; refine (H19.out _ HB6.out).mono ?_; rintro e w7 ⟨rfl, hw7⟩; subst hw7; try dsimp only))
    go_upto_region 9 with (go_at_call 30; refine (HRS.out _ HB6.out).mono ?_; rintro e w8 ⟨⟨s8, two8, rfl, hs8⟩, hw8⟩; subst hw8; obtain ⟨hse, hte⟩ := SidesR.unique HU.out HSD.out hs8; subst hse; subst hte; clear hs8; try dsimp only)
    go_wp2_with (first
      | (go_at_call 17; refine (K17.out _ HB6.out).mono ?_; rintro e w9 ⟨rfl, hw9⟩; subst hw9; try dsimp only)
      | (go_at_call 18; refine (K18.out _ HB6.out).mono ?_; rintro e w10 ⟨rfl, hB10⟩; have HB10 := Lib.hid (HB6.out.trans (hB10.mono HB6.out.size)); clear hB10)
      | (go_at_call 19; refine (K19.out _ HB10.out).mono ?_; rintro e w11 ⟨rfl, hw11⟩; subst hw11; try dsimp only)
      | (go_at_call 16; refine (HAW.out _ HB10.out).mono ?_; rintro e w12 ⟨rfl, hB12⟩; have HB12 := Lib.hid (HB10.out.trans (hB12.mono HB10.out.size)); clear hB12))
    go_ret
    exact ⟨rfl, HB14.out.trans (HB12.out.mono HB14.out.size)⟩
end Go.Proofs.YtpknnjcbcndbbaaDoor
