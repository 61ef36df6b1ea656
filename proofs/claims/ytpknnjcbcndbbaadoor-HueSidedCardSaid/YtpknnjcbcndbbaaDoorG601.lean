/- HueVizing: the walk of the law. Some of a graph's edges; edges that join an even and an odd vertex: plain text, and the law's sided. HueSided: the walk of the law. -/
import Derived.Test.YtpknnjcbcndbbaaDoorE01
import Derived.Test.YtpknnjcbcndbbaaDoorA17
import Derived.Test.YtpknnjcbcndbbaaDoorA06
import Derived.Test.YtpknnjcbcndbbaaDoorA12
set_option linter.unusedVariables false
set_option linter.unusedSimpArgs false
namespace Go.Proofs.YtpknnjcbcndbbaaDoor
open Go.RowKit Go.Shelf

theorem Sets.keep {n : Nat} {w W : World} {a : Option Addr} {zs : List Nat} (h : Sets w a zs) (hB : Below n w W) (hn : w.heap.size ≤ n) : Sets W a zs := by
  obtain ⟨b, off, e, hb, hc⟩ := h
  exact ⟨b, off, e, Nat.lt_of_lt_of_le hb hB.size, fun j hj => (hB.cell (p := ⟨b, off + j, none⟩) (Nat.lt_of_lt_of_le hb hn)).trans (hc j hj)⟩
theorem hues_true (ea p : Option Addr) (ec m c : Nat) (f : Nat → Int) (w : World) (hm : m ≤ 1099511627776) (h : SrcI w p m f) (hf : ∀ j, 0 ≤ f j) :
    Calls Tryd.prog 17 #[.slice ea m ec, .slice p m c] w fun e w' => e = .returned (.bool true) ∧ w' = w :=
  (rhues_any ea p m ec m c f w hm h).mono fun e w' ⟨⟨b, h1, h2⟩, h3⟩ => by
    obtain rfl : b = true := h2.2 ⟨fun j _ => hf j, rfl⟩
    exact ⟨h1, h3⟩
theorem proper_true (a p : Option Addr) (cap c : Nat) (ps : List (Int × Int)) (f : Nat → Int) (w : World) (hm : ps.length ≤ 1099511627776) (hg : Pairs w a ps) (h : SrcI w p ps.length f) (hp : ProperI ps f) :
    Calls Tryd.prog 18 #[.slice a ps.length cap, .slice p ps.length c] w fun e w' => e = .returned (.bool true) ∧ Below w.heap.size w w' :=
  (rproper_any a p cap c ps f w hm hg h).mono fun e w' ⟨⟨b, h1, h2⟩, h3⟩ => by
    obtain rfl : b = true := h2.2 hp
    exact ⟨h1, h3⟩
theorem below_true (p : Option Addr) (m c : Nat) (most : Int) (f : Nat → Int) (w : World) (hm : m ≤ 1099511627776) (h : SrcI w p m f) (hf : ∀ j, j < m → f j < most) :
    Calls Tryd.prog 19 #[.slice p m c, .int .i64 most] w fun e w' => e = .returned (.bool true) ∧ w' = w :=
  (rbelow_any p m c most f w hm h).mono fun e w' ⟨⟨b, h1, h2⟩, h3⟩ => by
    obtain rfl : b = true := h2.2 hf
    exact ⟨h1, h3⟩
set_option maxRecDepth 100000 in
set_option maxHeartbeats 4000000 in
theorem law5 (n : Int) (a : Option Addr) (cap : Nat) (ps : List (Int × Int)) (w : World) (h : PairsIn w a cap ps) (hT : Tab w) :
    Calls Tryd.prog 5 #[.int .i64 n, .slice a ps.length cap] w fun e w' => e = .returned (.bool true) ∧ Below w.heap.size w w' := by
  have HTM := Lib.hid (tame_any n a cap ps 16 w h (by decide) (by decide))
  have HT := Lib.hid hT
  clear h hT
  go_enter Tryd.func5, Tryd.ntmps5
  go_upto_region 2 with (go_at_call 14; refine (HTM.out).mono ?_; rintro e w1 ⟨m, qs, a1, c1, rfl, hm, hG1, hB1⟩; have HG1 := Lib.hid hG1; have HB1 := Lib.hid hB1; clear hG1 hB1)
  have hm1 := HG1.out.n1
  go_upto_region 3 with (go_at_call 21; refine (of_any m a1 c1 qs w1 HG1.out).mono ?_; rintro e w2 ⟨b2, rfl, hb2, hS2, hB2⟩; have HS2 := Lib.hid hS2; have HG2 := Lib.hid (HG1.out.below hB2); have HB2 := Lib.hid (HB1.out.trans (hB2.mono HB1.out.size)); clear hS2 hB2)
  have HSM := Lib.hid (ofE_sm HG1.out.n2 HG1.out.ok)
  have HLN := Lib.hid (ofE_length m qs)
  have HU := Lib.hid (und_ofE HG1.out.ok)
  have HE := Lib.hid (edgesOK HG1.out.n2 HG1.out.ok)
  have hlen := HG1.out.hl
  have hdm := (dg_bounds HG1.out.n1 HG1.out.n2 HG1.out.ok).2
  have HVZ := Lib.hid (fun W hT hG => Vizing_ok m a1 c1 qs W hT hG)
  have HKO := Lib.hid (fun W hT hG => Konig_ok m a1 c1 qs W hT hG)
  obtain ⟨g, hg⟩ : ∃ g, Hid (g = ofE m qs) := ⟨_, rfl⟩
  rw [← hg.out] at HSM HLN HU HE HVZ HKO HS2 hdm
  obtain ⟨d, hd⟩ : ∃ d, Hid (d = dgTo g 16) := ⟨_, rfl⟩
  have HRD : Hid (Calls Tryd.prog 27 #[.slice (some ⟨b2, 0, none⟩) m m] w2 fun e w' => e = .returned (.int .i64 (d : Nat)) ∧ w' = w2) := by rw [hd.out]; exact rdegree_any m _ m g w2 HLN.out hm HSM.out HS2.out
  have hd15 : d ≤ 15 := by rw [hd.out]; omega
  clear hdm
  go_upto_region 4 with (go_at_call 27; refine (HRD.out).mono ?_; rintro e w' ⟨rfl, hw'⟩; subst hw'; try dsimp only)
  have HV := Lib.hid (HVZ.out w' (HT.out.below HB2.out (Nat.le_refl _)) HG2.out)
  go_upto_region 5 with (go_at_call 28; refine (HV.out).mono ?_; rintro e w3 ⟨v3, us3, col3, rfl, hq3, hB3, hi3, hm3, ha3⟩; obtain ⟨p3, c3, rfl⟩ := hq3.isSlice; have HQ3 := Lib.hid hq3; have HI3 := Lib.hid hi3; have HM3 := Lib.hid hm3; have HA3 := Lib.hid ha3; have HB3 := Lib.hid hB3; clear hq3 hi3 hm3 ha3 hB3)
  have HG3 := Lib.hid (HG2.out.below HB3.out)
  have HB13 := Lib.hid (HB2.out.trans (HB3.out.mono HB2.out.size))
  have HS3 := Lib.hid (HS2.out.keep HB3.out (Nat.le_refl _))
  have HF3 := Lib.hid (HQ3.out.srcI (hl_get col3 qs))
  have HP3 := Lib.hid (proper_of HE.out HI3.out HA3.out)
  have HL3 : Hid (∀ j, j < qs.length → hf col3 qs j < ((d + 1 : Nat) : Int)) := hf_below HA3.out fun q hq x hx => by rw [hd.out]; exact Nat.lt_succ_of_le (HM3.out _ _ hx)
  have HK := Lib.hid (HKO.out w3 (HT.out.below HB13.out (Nat.le_refl _)) HG3.out)
  clear HV HRD HKO HVZ
  go_upto_region 6 with (go_at_call 29; refine (HK.out).mono ?_; rintro e w4 ⟨hk, hB4⟩; have HB4 := Lib.hid hB4; clear hB4; rcases hk with ⟨rfl, hsd⟩ | ⟨v4, us4, col4, s4, rfl, hsd, hq4, hi4, hm4, ha4⟩)
  · have HSD := Lib.hid hsd
    clear hsd
    have HB14 := Lib.hid (HB13.out.trans (HB4.out.mono HB13.out.size))
    have HG4 := Lib.hid (HG3.out.below HB4.out)
    have HS4 := Lib.hid (HS3.out.keep HB4.out (Nat.le_refl _))
    have HF4 := Lib.hid (HF3.out.below HB4.out (Nat.le_refl _))
    have H17 : Hid (∀ W, Below w4.heap.size w4 W → Calls Tryd.prog 17 #[.slice a1 qs.length c1, .slice p3 qs.length c3] W fun e w' => e = .returned (.bool true) ∧ w' = W) := fun W hW => hues_true a1 p3 c1 qs.length c3 _ W hlen (HF4.out.below hW (Nat.le_refl _)) (hf_nonneg col3 qs)
    have H18 : Hid (∀ W, Below w4.heap.size w4 W → Calls Tryd.prog 18 #[.slice a1 qs.length c1, .slice p3 qs.length c3] W fun e w' => e = .returned (.bool true) ∧ Below W.heap.size W w') := fun W hW => proper_true a1 p3 c1 c3 qs _ W hlen (HG4.out.hg.below hW (Nat.le_refl _)) (HF4.out.below hW (Nat.le_refl _)) HP3.out
    have H19 : Hid (∀ W, Below w4.heap.size w4 W → Calls Tryd.prog 19 #[.slice p3 qs.length c3, .int .i64 ((d : Int) + 1)] W fun e w' => e = .returned (.bool true) ∧ w' = W) := fun W hW => below_true p3 qs.length c3 _ _ W hlen (HF4.out.below hW (Nat.le_refl _)) (fun j hj => by have := HL3.out j hj; omega)
    have HRS : Hid (∀ W, Below w4.heap.size w4 W → Calls Tryd.prog 30 #[.slice (some ⟨b2, 0, none⟩) m m] W fun e w' => SidesA g m e ∧ w' = W) := fun W hW => rsides_any m _ m g W HLN.out hm HU.out HSM.out (HS4.out.keep hW (Nat.le_refl _))
    have HAW : Hid (∀ W, Below w4.heap.size w4 W → Calls Tryd.prog 16 #[] W fun e w' => e = .returned (.bool true) ∧ Below W.heap.size W w') := fun W hW => awake_any W (HT.out.below (HB14.out.trans (hW.mono HB14.out.size)) (Nat.le_refl _))
    have HRF := Lib.hid (Below.refl w4.heap.size w4)
    clear HF3 HL3 HP3 HK HTM
    go_upto_region 8 with (first
      | (go_at_call 17; refine (H17.out w4 HRF.out).mono ?_; rintro e w5 ⟨rfl, hw5⟩; subst hw5; try dsimp only)
      | (go_at_call 18; refine (H18.out _ HRF.out).mono ?_; rintro e w6 ⟨rfl, hB6⟩; have HB6 := Lib.hid hB6; clear hB6)
      | (go_at_call 19; refine (H19.out _ HB6.out).mono ?_; rintro e w7 ⟨rfl, hw7⟩; subst hw7; try dsimp only))
    go_upto_region 9 with (go_at_call 30; refine (HRS.out _ HB6.out).mono ?_; rintro e w8 ⟨⟨s8, two8, rfl, hs8⟩, hw8⟩; subst hw8; obtain ⟨hse, hte⟩ := SidesR.unique HU.out HSD.out hs8; subst hse; subst hte; clear hs8; try dsimp only)
    go_wp2_with (go_at_call 16; refine (HAW.out _ HB6.out).mono ?_; rintro e w9 ⟨rfl, hB9⟩; have HB9 := Lib.hid hB9; clear hB9)
    go_ret
    exact ⟨rfl, (HB14.out.trans (HB6.out.mono HB14.out.size)).trans (HB9.out.mono (Nat.le_trans HB14.out.size HB6.out.size))⟩
  · obtain ⟨p4, c4, rfl⟩ := hq4.isSlice
    have HSD := Lib.hid hsd
    have HQ4 := Lib.hid hq4
    have HI4 := Lib.hid hi4
    have HM4 := Lib.hid hm4
    have HA4 := Lib.hid ha4
    clear hsd hq4 hi4 hm4 ha4
    have HB14 := Lib.hid (HB13.out.trans (HB4.out.mono HB13.out.size))
    have HG4 := Lib.hid (HG3.out.below HB4.out)
    have HS4 := Lib.hid (HS3.out.keep HB4.out (Nat.le_refl _))
    have HF4 := Lib.hid (HF3.out.below HB4.out (Nat.le_refl _))
    have H17 : Hid (∀ W, Below w4.heap.size w4 W → Calls Tryd.prog 17 #[.slice a1 qs.length c1, .slice p3 qs.length c3] W fun e w' => e = .returned (.bool true) ∧ w' = W) := fun W hW => hues_true a1 p3 c1 qs.length c3 _ W hlen (HF4.out.below hW (Nat.le_refl _)) (hf_nonneg col3 qs)
    have H18 : Hid (∀ W, Below w4.heap.size w4 W → Calls Tryd.prog 18 #[.slice a1 qs.length c1, .slice p3 qs.length c3] W fun e w' => e = .returned (.bool true) ∧ Below W.heap.size W w') := fun W hW => proper_true a1 p3 c1 c3 qs _ W hlen (HG4.out.hg.below hW (Nat.le_refl _)) (HF4.out.below hW (Nat.le_refl _)) HP3.out
    have H19 : Hid (∀ W, Below w4.heap.size w4 W → Calls Tryd.prog 19 #[.slice p3 qs.length c3, .int .i64 ((d : Int) + 1)] W fun e w' => e = .returned (.bool true) ∧ w' = W) := fun W hW => below_true p3 qs.length c3 _ _ W hlen (HF4.out.below hW (Nat.le_refl _)) (fun j hj => by have := HL3.out j hj; omega)
    have HRS : Hid (∀ W, Below w4.heap.size w4 W → Calls Tryd.prog 30 #[.slice (some ⟨b2, 0, none⟩) m m] W fun e w' => SidesA g m e ∧ w' = W) := fun W hW => rsides_any m _ m g W HLN.out hm HU.out HSM.out (HS4.out.keep hW (Nat.le_refl _))
    have HAW : Hid (∀ W, Below w4.heap.size w4 W → Calls Tryd.prog 16 #[] W fun e w' => e = .returned (.bool true) ∧ Below W.heap.size W w') := fun W hW => awake_any W (HT.out.below (HB14.out.trans (hW.mono HB14.out.size)) (Nat.le_refl _))
    have HRF := Lib.hid (Below.refl w4.heap.size w4)
    have HF5 := Lib.hid (HQ4.out.srcI (hl_get col4 qs))
    have HP5 := Lib.hid (proper_of HE.out HI4.out HA4.out)
    have HL5 : Hid (∀ j, j < qs.length → hf col4 qs j < (d : Int)) := hf_below HA4.out fun q hq x hx => by rw [hd.out]; exact HM4.out _ _ hx
    have K17 : Hid (∀ W, Below w4.heap.size w4 W → Calls Tryd.prog 17 #[.slice a1 qs.length c1, .slice p4 qs.length c4] W fun e w' => e = .returned (.bool true) ∧ w' = W) := fun W hW => hues_true a1 p4 c1 qs.length c4 _ W hlen (HF5.out.below hW (Nat.le_refl _)) (hf_nonneg col4 qs)
    have K18 : Hid (∀ W, Below w4.heap.size w4 W → Calls Tryd.prog 18 #[.slice a1 qs.length c1, .slice p4 qs.length c4] W fun e w' => e = .returned (.bool true) ∧ Below W.heap.size W w') := fun W hW => proper_true a1 p4 c1 c4 qs _ W hlen (HG4.out.hg.below hW (Nat.le_refl _)) (HF5.out.below hW (Nat.le_refl _)) HP5.out
    have K19 : Hid (∀ W, Below w4.heap.size w4 W → Calls Tryd.prog 19 #[.slice p4 qs.length c4, .int .i64 (d : Int)] W fun e w' => e = .returned (.bool true) ∧ w' = W) := fun W hW => below_true p4 qs.length c4 _ _ W hlen (HF5.out.below hW (Nat.le_refl _)) HL5.out
    clear HF3 HL3 HP3 HK HTM
    go_upto_region 8 with (first
      | (go_at_call 17; refine (H17.out w4 HRF.out).mono ?_; rintro e w5 ⟨rfl, hw5⟩; subst hw5; try dsimp only)
      | (go_at_call 18; refine (H18.out _ HRF.out).mono ?_; rintro e w6 ⟨rfl, hB6⟩; have HB6 := Lib.hid hB6; clear hB6)
      | (go_at_call 19; refine (H19.out _ HB6.out).mono ?_; rintro e w7 ⟨rfl, hw7⟩; subst hw7; try dsimp only))
    go_upto_region 9 with (go_at_call 30; refine (HRS.out _ HB6.out).mono ?_; rintro e w8 ⟨⟨s8, two8, rfl, hs8⟩, hw8⟩; subst hw8; obtain ⟨hse, hte⟩ := SidesR.unique HU.out HSD.out hs8; subst hse; subst hte; clear hs8; try dsimp only)
    go_wp2_with (first
      | (go_at_call 17; refine (K17.out _ HB6.out).mono ?_; rintro e w9 ⟨rfl, hw9⟩; subst hw9; try dsimp only)
      | (go_at_call 18; refine (K18.out _ HB6.out).mono ?_; rintro e w10 ⟨rfl, hB10⟩; have HB10 := Lib.hid (HB6.out.trans (hB10.mono HB6.out.size)); clear hB10)
      | (go_at_call 19; refine (K19.out _ HB10.out).mono ?_; rintro e w11 ⟨rfl, hw11⟩; subst hw11; try dsimp only)
      | (go_at_call 16; refine (HAW.out _ HB10.out).mono ?_; rintro e w12 ⟨rfl, hB12⟩; have HB12 := Lib.hid (HB10.out.trans (hB12.mono HB10.out.size)); clear hB12))
    go_ret
    exact ⟨rfl, HB14.out.trans (HB12.out.mono HB14.out.size)⟩
end Go.Proofs.YtpknnjcbcndbbaaDoor
namespace Go.Proofs.YtpknnjcbcndbbaaDoor
open Go.RowKit Go.Shelf

/-- before, by the first number, then by the second -/
def Lx (p q : Int × Int) : Prop := p.1 < q.1 ∨ (p.1 = q.1 ∧ p.2 < q.2)
theorem edgesB_iff {n : Int} {ps : List (Int × Int)} : edgesB n ps = true ↔ (∀ e ∈ ps, 0 ≤ e.1 ∧ e.1 < e.2 ∧ e.2 < n) ∧ ps.Pairwise Lx := by
  constructor
  · intro h
    refine ⟨edgesB_mem h, ?_⟩
    rw [List.pairwise_iff_getElem]
    intro i j hi hj hij
    have := edgesB_lt h (j - i - 1) i (by omega)
    rw [show i + (j - i - 1 + 1) = j by omega, List.getElem?_eq_getElem hi, List.getElem?_eq_getElem hj] at this
    exact this
  · rintro ⟨h1, h2⟩
    unfold edgesB
    rw [List.all_eq_true]
    intro k hk
    rw [List.mem_range] at hk
    have g1 := h1 ps[k] (List.getElem_mem hk)
    unfold badAt
    rw [List.getElem?_eq_getElem hk]
    simp only [Option.getD_some]
    by_cases h0 : 0 < k
    · have g2 := (List.pairwise_iff_getElem.1 h2) (k - 1) k (by omega) hk (by omega)
      rw [List.getElem?_eq_getElem (show k - 1 < ps.length by omega)]
      unfold Lx at g2
      simp only [Option.getD_some]
      simp
      omega
    · simp
      omega
theorem edgesB_sub {n : Int} {ps qs : List (Int × Int)} (hs : qs.Sublist ps) (h : edgesB n ps = true) : edgesB n qs = true := by
  obtain ⟨h1, h2⟩ := edgesB_iff.1 h
  exact edgesB_iff.2 ⟨fun e he => h1 e (hs.subset he), h2.sublist hs⟩
theorem ofE_two {n : Nat} {ps : List (Int × Int)} {s : Nat} (h : edgesB n ps = true) (ho : ∀ e ∈ ps, s.testBit e.1.toNat ≠ s.testBit e.2.toNat) : TwoCol (ofE n ps) s := fun x y ha => by
  obtain ⟨e, he, h1 | h1⟩ := (adj_ofE h x y).1 ha
  · rw [← h1.1, ← h1.2]; exact ho e he
  · rw [← h1.1, ← h1.2]; exact (ho e he).symm
def evens : Nat := 21845
theorem evens_bit {x : Nat} (hx : x < 16) : evens.testBit x = decide (x % 2 = 0) := by
  have : ∀ x, x < 16 → evens.testBit x = decide (x % 2 = 0) := by decide
  exact this x hx
def oddSum (q : Int × Int) : Bool := (q.1 + q.2) % 2 == 1
theorem odd_two {n : Nat} {ps : List (Int × Int)} (hn : n ≤ 16) (h : edgesB n ps = true) (ho : ∀ e ∈ ps, oddSum e = true) : TwoCol (ofE n ps) evens :=
  ofE_two h fun e he => by
    have h1 := edgesB_mem h e he
    have h2 := ho e he
    unfold oddSum at h2
    rw [beq_iff_eq] at h2
    rw [evens_bit (by omega), evens_bit (by omega)]
    intro hc
    rw [decide_eq_decide] at hc
    omega
set_option maxRecDepth 100000 in
set_option maxHeartbeats 2000000 in
theorem sided_any (n : Int) (a : Option Addr) (cap : Nat) (ps : List (Int × Int)) (most : Nat) (w : World) (h : PairsIn w a cap ps) (hm1 : 1 ≤ most) (hm2 : most ≤ 16) :
    Calls Tryd.prog 31 #[.int .i64 n, .slice a ps.length cap, .int .i64 most] w fun e w' => ∃ (m : Nat) (qs : List (Int × Int)) (a' : Option Addr) (c' : Nat), e = .returned (.tuple #[.int .i64 m, .slice a' qs.length c']) ∧ m ≤ most ∧ Good m qs a' w' ∧ TwoCol (ofE m qs) evens ∧ Below w.heap.size w w' := by
  obtain ⟨i0, hi, hz0, hz1, hz2⟩ := info_parts info49
  have HTM := Lib.hid (tame_any n a cap ps most w h hm1 hm2)
  clear h
  go_enter Tryd.func31, Tryd.ntmps31
  go_upto_region 2 with (go_at_call 14; refine (HTM.out).mono ?_; rintro e w1 ⟨m, qs, a1, c1, rfl, hm, hG1, hB1⟩; have HG1 := Lib.hid hG1; have HB1 := Lib.hid hB1; clear hG1 hB1)
  have hlen := HG1.out.hl
  clear HTM
  go_upto_region 4 with (fail)
  go_loopw [9, 10] (fun s9 s10 wr => ∃ (j : Nat) (os : List (Int × Int)), j ≤ qs.length ∧ s10 = .int .i64 (j : Int) ∧ Hid (os = (qs.take j).filter oddSum) ∧ QRow wr w1.heap.size 72 2 s9 os.length (pairCells os) ∧ Hid (Below w1.heap.size w1 wr)) (fun _ s10 _ => qs.length - (intOf s10).toNat)
  case atStart => exact ⟨0, [], by omega, rfl, rfl, QRow.nil _ _ _ _, Below.refl _ _⟩
  case round =>
    obtain ⟨j, os, hj, rfl, hos, hq, hB⟩ := hrel
    obtain ⟨p9, c9, rfl⟩ := hq.isSlice
    by_cases hjl : j < qs.length
    · have h1 : (j : Int) < (qs.length : Int) := by omega
      have h0 : (0 : Int) ≤ (j : Int) := by omega
      obtain ⟨eb, eo, rfl, helt, hec⟩ := HG1.out.hg (fun e => by rw [e] at hjl; simp at hjl)
      have hk0 := hec j hjl
      have he := edgesB_at HG1.out.ok j hjl
      obtain ⟨x, hx⟩ := Int.eq_ofNat_of_zero_le he.1
      obtain ⟨y, hy⟩ := Int.eq_ofNat_of_zero_le (show 0 ≤ (qs[j]?.getD (0, 0)).2 by omega)
      have hn16 := HG1.out.n2
      have hqe : qs[j]?.getD (0, 0) = ((x : Int), (y : Int)) := Prod.ext hx hy
      have htk : (qs.take (j + 1)).filter oddSum = os ++ (if oddSum ((x : Int), (y : Int)) = true then [((x : Int), (y : Int))] else []) := by
        rw [List.take_succ_eq_append_getElem hjl, List.filter_append, hos.out]
        have e : qs[j] = ((x : Int), (y : Int)) := by rw [← hqe, List.getElem?_eq_getElem hjl]; rfl
        rw [e]
        congr 1
        simp only [List.filter_cons, List.filter_nil]
      rw [hqe] at hk0 he
      have hosl : os.length ≤ j := by
        rw [hos.out]
        exact Nat.le_trans (List.length_filter_le _ _) (by rw [List.length_take]; omega)
      have k1 := (hB.out.cell (p := ⟨eb, eo + j * 2, none⟩) helt).trans hk0.1
      have k2 := (hB.out.cell (p := ⟨eb, eo + j * 2 + 1, none⟩) helt).trans hk0.2
      have HTK := Lib.hid htk
      have HQ := Lib.hid hq
      have hsz := hB.out.size
      have hsz1 := HB1.out.size
      have hx16 : x < 16 := by simp only at he; omega
      have hy16 : y < 16 := by simp only at he; omega
      clear hec hk0 he hx hy hqe htk hq
      simp only at k1 k2
      have K1 := Lib.hid k1
      have K2 := Lib.hid k2
      by_cases hod : ((x : Int) + (y : Int)) % 2 = 1
      · have ho : oddSum ((x : Int), (y : Int)) = true := by unfold oddSum; rw [beq_iff_eq]; exact hod
        have HNX : Hid (os ++ [((x : Int), (y : Int))] = (qs.take (j + 1)).filter oddSum) := by rw [Hid, HTK.out, if_pos ho]
        have e1 : (((x : Int) + (y : Int)) % 2 == 1) = true := by rw [beq_iff_eq]; exact hod
        clear ho hod HTK
        go_upto_region 6 with (fail)
        go_region
        clear k1 k2
        have hBD : Below w1.heap.size w1 wr.drew := hB.out.drew
        have HBD := Lib.hid hBD
        have hk1 : wr.drew.cell? ⟨eb, eo + j * 2, none⟩ = some (.int .i64 (x : Int)) := K1.out
        have hk2 : wr.drew.cell? ⟨eb, eo + j * 2 + 1, none⟩ = some (.int .i64 (y : Int)) := K2.out
        have HQD : Hid (QRow wr.drew w1.heap.size 72 2 (.slice p9 os.length c9) os.length (pairCells os)) := HQ.out
        have hszd : w1.heap.size ≤ wr.drew.heap.size := hsz
        generalize wr.drew = Z at *
        have hqa := HQD.out.alloc (.cells #[.int .i64 (x : Int), .int .i64 (y : Int)] 72)
        have HQA := Lib.hid hqa
        have HLT := Lib.hid (fun k e => (hqa.lt k e).1)
        clear hqa hBD
        go_wp2_with (at_builtin; go_must (refine wpList_append_q _ rfl (.tmp 37) (.tmp 42) 22 rfl w1.heap.size 72 i0 _ 2 16 Tryd.underlying22 hi hz0 hz1 hz2 rfl (by decide) _ os.length (pairCells os) rfl HQA.out ⟨Z.heap.size, 0, none⟩ 1 1 [.int .i64 (x : Int), .int .i64 (y : Int)] rfl rfl (cells_newB _ _ _ _) (by simp [Value.oneCell']) (by unfold maxLen; omega) (by omega) (by simp; omega) ?_); intro v' w' hq' hgr hbl; have HQ' : Hid (QRow w' w1.heap.size 72 2 v' (os ++ [((x : Int), (y : Int))]).length (pairCells (os ++ [((x : Int), (y : Int))]))) := (by rw [Hid, List.length_append, pairCells_snoc]; exact hq'); have HB' : Hid (Below w1.heap.size w1 w') := Below.grown (HBD.out.alloc hszd _) hgr (by simp; omega) (fun k hk => HLT.out k hk); clear hq' hgr hbl)
        exact ⟨⟨j + 1, _, by omega, int_eq (by omega), HNX, HQ'.out, HB'⟩, by simp [intOf]; omega⟩
      · have ho : ¬ oddSum ((x : Int), (y : Int)) = true := by unfold oddSum; rw [beq_iff_eq]; exact hod
        have HNX : Hid (os = (qs.take (j + 1)).filter oddSum) := by rw [Hid, HTK.out, if_neg ho, List.append_nil]
        have e1 : (((x : Int) + (y : Int)) % 2 == 1) = false := by rw [beq_eq_false_iff_ne]; exact hod
        clear ho hod HTK
        go_upto_region 6 with (fail)
        go_region
        go_wp2
        exact ⟨⟨j + 1, os, by omega, int_eq (by omega), HNX, HQ.out, hB.out.drew⟩, by simp [intOf]; omega⟩
    · have h1 : ¬ (j : Int) < (qs.length : Int) := by omega
      have hje : j = qs.length := by omega
      have HO : Hid (os = qs.filter oddSum) := by rw [Hid, hos.out, hje, List.take_length]
      have HQ := Lib.hid hq
      clear hq hje
      go_wp2
      refine bodyPost_ret (v := .tuple #[.int .i64 (m : Nat), .slice p9 os.length c9]) (by simp [results, Tryd.f31, go_sem]) rfl ?_
      have hok : edgesB m os = true := by rw [HO.out]; exact edgesB_sub List.filter_sublist HG1.out.ok
      have hle : os.length ≤ qs.length := by rw [HO.out]; exact List.length_filter_le _ _
      refine ⟨m, os, p9, ⟨c9, rfl⟩, hm, ⟨by omega, fun hne => ?_, HG1.out.n1, HG1.out.n2, hok⟩, odd_two HG1.out.n2 hok (fun e he => ?_), HB1.out.trans (hB.out.mono HB1.out.size)⟩
      · obtain ⟨gb, o, cap', e, h1, h2, h3, h4, h5, h6⟩ := HQ.out.at (List.length_pos_iff.2 hne)
        cases e
        refine ⟨gb, o, rfl, h2, fun j hj => ?_⟩
        have := pairCells_get os j hj
        exact ⟨(h5 (j * 2) (by omega)).trans this.1, (h5 (j * 2 + 1) (by omega)).trans this.2⟩
      · rw [HO.out] at he; exact (List.mem_filter.1 he).2
end Go.Proofs.YtpknnjcbcndbbaaDoor
namespace Go.Proofs.YtpknnjcbcndbbaaDoor
open Go.RowKit Go.Shelf

theorem SidesR.two {g : List Nat} {n s t : Nat} {b : Bool} (h : SidesR g n s b) (ht : TwoCol g t) : b = true ∧ TwoCol g s ∧ (∀ x, x < n → Rooted g s x) ∧ ∀ x, s.testBit x = true → x < n := by
  rcases h with ⟨rfl, h1, h2, h3⟩ | ⟨rfl, _, h1⟩
  · exact ⟨rfl, h1, h2, h3⟩
  · exact absurd ht (h1 t)
theorem side_zero {g : List Nat} {n s : Nat} (_ : Und g n) (hn : 1 ≤ n) (h1 : TwoCol g s) (h2 : ∀ x, x < n → Rooted g s x) : s.testBit 0 = true := by
  obtain ⟨r, k, w, e, l⟩ := h2 0 (by omega)
  have : r = 0 := by have := l k 0 w; omega
  subst this
  exact e.2 ((h1.walk w).1 rfl)
theorem sm_bits {s n : Nat} (hn : n ≤ 16) (h : ∀ x, s.testBit x = true → x < n) : Sm s := by
  have : s < 2 ^ 20 := Nat.lt_pow_two_of_testBit s fun i hi => by
    cases hb : s.testBit i with
    | false => rfl
    | true => have := h i hb; omega
  exact this
set_option maxRecDepth 100000 in
set_option maxHeartbeats 4000000 in
theorem law6 (n : Int) (a : Option Addr) (cap : Nat) (ps : List (Int × Int)) (w : World) (h : PairsIn w a cap ps) (hT : Tab w) :
    Calls Tryd.prog 6 #[.int .i64 n, .slice a ps.length cap] w fun e w' => e = .returned (.bool true) ∧ Below w.heap.size w w' := by
  have HTM := Lib.hid (sided_any n a cap ps 16 w h (by decide) (by decide))
  have HT := Lib.hid hT
  clear h hT
  go_enter Tryd.func6, Tryd.ntmps6
  go_upto_region 2 with (go_at_call 31; refine (HTM.out).mono ?_; rintro e w1 ⟨m, qs, a1, c1, rfl, hm, hG1, hTC, hB1⟩; have HG1 := Lib.hid hG1; have HB1 := Lib.hid hB1; have HTC := Lib.hid hTC; clear hG1 hB1 hTC)
  have hm1 := HG1.out.n1
  have HSM := Lib.hid (ofE_sm HG1.out.n2 HG1.out.ok)
  have HLN := Lib.hid (ofE_length m qs)
  have HU := Lib.hid (und_ofE HG1.out.ok)
  have HE := Lib.hid (edgesOK HG1.out.n2 HG1.out.ok)
  have hlen := HG1.out.hl
  have hdm := (dg_bounds HG1.out.n1 HG1.out.n2 HG1.out.ok).2
  have HOF := Lib.hid (of_any m a1 c1 qs w1 HG1.out)
  have HVZ := Lib.hid (fun W hT hG => Vizing_ok m a1 c1 qs W hT hG)
  have HKO := Lib.hid (fun W hT hG => Konig_ok m a1 c1 qs W hT hG)
  have HSI := Lib.hid (fun W hT hG => Sides_ok m a1 c1 qs W hT hG)
  have HOD := Lib.hid (fun W hT hG => OddRing_ok m a1 c1 qs W hT hG)
  obtain ⟨g, hg⟩ : ∃ g, Hid (g = ofE m qs) := ⟨_, rfl⟩
  rw [← hg.out] at HSM HLN HU HE HVZ HKO HSI HOD HTC HOF hdm
  obtain ⟨d, hd⟩ : ∃ d, Hid (d = dgTo g 16) := ⟨_, rfl⟩
  have hd15 : d ≤ 15 := by rw [hd.out]; omega
  have HRD : Hid (∀ b2 W, Sets W (some ⟨b2, 0, none⟩) g → Calls Tryd.prog 27 #[.slice (some ⟨b2, 0, none⟩) m m] W fun e w' => e = .returned (.int .i64 (d : Nat)) ∧ w' = W) := fun b2 W hS => by rw [hd.out]; exact rdegree_any m _ m g W HLN.out hm HSM.out hS
  clear hdm
  go_upto_region 3 with (first
    | (go_at_call 21; refine (HOF.out).mono ?_; rintro e w2 ⟨b2, rfl, hb2, hS2, hB2⟩; have HS2 := Lib.hid hS2; have HG2 := Lib.hid (HG1.out.below hB2); have HB2 := Lib.hid (HB1.out.trans (hB2.mono HB1.out.size)); clear hS2 hB2 hb2)
    | (go_at_call 27; refine (HRD.out b2 _ HS2.out).mono ?_; rintro e w' ⟨rfl, hw'⟩; subst hw'; try dsimp only))
  have HV := Lib.hid (HVZ.out w' (HT.out.below HB2.out (Nat.le_refl _)) HG2.out)
  go_upto_region 4 with (go_at_call 28; refine (HV.out).mono ?_; rintro e w3 ⟨v3, us3, col3, rfl, hq3, hB3, hi3, hm3, ha3⟩; obtain ⟨p3, c3, rfl⟩ := hq3.isSlice; have HQ3 := Lib.hid hq3; have HI3 := Lib.hid hi3; have HM3 := Lib.hid hm3; have HA3 := Lib.hid ha3; have HB3 := Lib.hid hB3; clear hq3 hi3 hm3 ha3 hB3)
  have HG3 := Lib.hid (HG2.out.below HB3.out)
  have HB13 := Lib.hid (HB2.out.trans (HB3.out.mono HB2.out.size))
  have HF3 := Lib.hid (HQ3.out.srcI (hl_get col3 qs))
  have HP3 := Lib.hid (proper_of HE.out HI3.out HA3.out)
  have HL3 : Hid (∀ j, j < qs.length → hf col3 qs j < ((d + 1 : Nat) : Int)) := hf_below HA3.out fun q hq x hx => by rw [hd.out]; exact Nat.lt_succ_of_le (HM3.out _ _ hx)
  have HK := Lib.hid (HKO.out w3 (HT.out.below HB13.out (Nat.le_refl _)) HG3.out)
  clear HV HRD HKO HVZ HOF
  go_upto_region 5 with (go_at_call 29; refine (HK.out).mono ?_; rintro e w4 ⟨hk, hB4⟩; have HB4 := Lib.hid hB4; clear hB4; rcases hk with ⟨rfl, hsd⟩ | ⟨v4, us4, col4, s4, rfl, hsd, hq4, hi4, hm4, ha4⟩)
  · rcases hsd with ⟨h, _⟩ | ⟨_, _, h⟩
    · cases h
    · exact absurd HTC.out (h _)
  obtain ⟨p4, c4, rfl⟩ := hq4.isSlice
  have HQ4 := Lib.hid hq4
  have HI4 := Lib.hid hi4
  have HM4 := Lib.hid hm4
  have HA4 := Lib.hid ha4
  clear hsd hq4 hi4 hm4 ha4
  have HB14 := Lib.hid (HB13.out.trans (HB4.out.mono HB13.out.size))
  have HG4 := Lib.hid (HG3.out.below HB4.out)
  have HF4 := Lib.hid (HF3.out.below HB4.out (Nat.le_refl _))
  have H17 : Hid (∀ W, Below w4.heap.size w4 W → Calls Tryd.prog 17 #[.slice a1 qs.length c1, .slice p3 qs.length c3] W fun e w' => e = .returned (.bool true) ∧ w' = W) := fun W hW => hues_true a1 p3 c1 qs.length c3 _ W hlen (HF4.out.below hW (Nat.le_refl _)) (hf_nonneg col3 qs)
  have H18 : Hid (∀ W, Below w4.heap.size w4 W → Calls Tryd.prog 18 #[.slice a1 qs.length c1, .slice p3 qs.length c3] W fun e w' => e = .returned (.bool true) ∧ Below W.heap.size W w') := fun W hW => proper_true a1 p3 c1 c3 qs _ W hlen (HG4.out.hg.below hW (Nat.le_refl _)) (HF4.out.below hW (Nat.le_refl _)) HP3.out
  have H19 : Hid (∀ W, Below w4.heap.size w4 W → Calls Tryd.prog 19 #[.slice p3 qs.length c3, .int .i64 ((d : Int) + 1)] W fun e w' => e = .returned (.bool true) ∧ w' = W) := fun W hW => below_true p3 qs.length c3 _ _ W hlen (HF4.out.below hW (Nat.le_refl _)) (fun j hj => by have := HL3.out j hj; omega)
  have HAW : Hid (∀ W, Below w4.heap.size w4 W → Calls Tryd.prog 16 #[] W fun e w' => e = .returned (.bool true) ∧ Below W.heap.size W w') := fun W hW => awake_any W (HT.out.below (HB14.out.trans (hW.mono HB14.out.size)) (Nat.le_refl _))
  have HF5 := Lib.hid (HQ4.out.srcI (hl_get col4 qs))
  have HP5 := Lib.hid (proper_of HE.out HI4.out HA4.out)
  have HL5 : Hid (∀ j, j < qs.length → hf col4 qs j < (d : Int)) := hf_below HA4.out fun q hq x hx => by rw [hd.out]; exact HM4.out _ _ hx
  have K17 : Hid (∀ W, Below w4.heap.size w4 W → Calls Tryd.prog 17 #[.slice a1 qs.length c1, .slice p4 qs.length c4] W fun e w' => e = .returned (.bool true) ∧ w' = W) := fun W hW => hues_true a1 p4 c1 qs.length c4 _ W hlen (HF5.out.below hW (Nat.le_refl _)) (hf_nonneg col4 qs)
  have K18 : Hid (∀ W, Below w4.heap.size w4 W → Calls Tryd.prog 18 #[.slice a1 qs.length c1, .slice p4 qs.length c4] W fun e w' => e = .returned (.bool true) ∧ Below W.heap.size W w') := fun W hW => proper_true a1 p4 c1 c4 qs _ W hlen (HG4.out.hg.below hW (Nat.le_refl _)) (HF5.out.below hW (Nat.le_refl _)) HP5.out
  have K19 : Hid (∀ W, Below w4.heap.size w4 W → Calls Tryd.prog 19 #[.slice p4 qs.length c4, .int .i64 (d : Int)] W fun e w' => e = .returned (.bool true) ∧ w' = W) := fun W hW => below_true p4 qs.length c4 _ _ W hlen (HF5.out.below hW (Nat.le_refl _)) HL5.out
  have KSI : Hid (Calls Tryd.prog 32 #[.int .i64 (m : Int), .slice a1 qs.length c1] w4 fun e w' => (∃ (s : Nat) (two : Bool), e = .returned (.tuple #[.int .i64 (s : Int), .bool two, .int .i64 0]) ∧ SidesR g m s two) ∧ Below w4.heap.size w4 w') := HSI.out w4 (HT.out.below HB14.out (Nat.le_refl _)) HG4.out
  clear HF3 HL3 HP3 HK HTM HSI
  go_upto_region 6 with (go_at_call 32; refine (KSI.out).mono ?_; rintro e w5 ⟨⟨s5, two5, rfl, hs5⟩, hB5⟩; have HB5 := Lib.hid hB5; clear hB5)
  obtain ⟨ht5, hs6, hs7, hs8⟩ := hs5.two HTC.out
  subst ht5
  have hs0 := side_zero HU.out hm1 hs6 hs7
  have hsm5 := sm_bits hm hs8
  have hodd : s5 &&& 1 = 1 := by
    rw [Nat.and_one_is_mod]
    have : s5.testBit 0 = true := hs0
    rw [Nat.testBit_zero] at this
    simpa using this
  have hs1 : (bits BinOp.and IntKind.i64 (s5 : Int) 1 == 0) = false := by
    have hb := band s5 1 hsm5 (sm_of (by decide))
    rw [hodd] at hb
    rw [show ((1 : Nat) : Int) = 1 from rfl] at hb
    rw [hb]; rfl
  clear hs5 hs6 hs7 hs8 hs0 hodd
  have KOD := Lib.hid (HOD.out w5 (HT.out.below (HB14.out.trans (HB5.out.mono HB14.out.size)) (Nat.le_refl _)) (HG4.out.below HB5.out))
  go_upto_region 7 with (go_at_call 33; refine (KOD.out).mono ?_; rintro e w6 ⟨⟨v6, l6, s6, is6, rfl, hs6, hq6, -, -⟩, hB6⟩; obtain ⟨h6, -⟩ := hs6.two HTC.out; obtain rfl : is6 = false := (by cases is6 with | true => cases h6 | false => rfl); obtain ⟨p6, c6, rfl⟩ := hq6.isSlice; have HB6 := Lib.hid (HB5.out.trans (hB6.mono HB5.out.size)); clear hs6 hq6 h6 hB6)
  go_wp2_with (first
    | (go_at_call 17; first | ((with_reducible refine (H17.out _ HB6.out).mono ?_); rintro e w7 ⟨rfl, hw7⟩; subst hw7; try dsimp only) | ((with_reducible refine (K17.out _ HB8.out).mono ?_); rintro e w10 ⟨rfl, hw10⟩; subst hw10; try dsimp only))
    | (go_at_call 18; first | ((with_reducible refine (H18.out _ HB6.out).mono ?_); rintro e w8 ⟨rfl, hB8⟩; have HB8 := Lib.hid (HB6.out.trans (hB8.mono HB6.out.size)); clear hB8) | ((with_reducible refine (K18.out _ HB8.out).mono ?_); rintro e w11 ⟨rfl, hB11⟩; have HB11 := Lib.hid (HB8.out.trans (hB11.mono HB8.out.size)); clear hB11))
    | (go_at_call 19; first | ((with_reducible refine (H19.out _ HB8.out).mono ?_); rintro e w9 ⟨rfl, hw9⟩; subst hw9; try dsimp only) | ((with_reducible refine (K19.out _ HB11.out).mono ?_); rintro e w12 ⟨rfl, hw12⟩; subst hw12; try dsimp only))
    | (go_at_call 16; refine (HAW.out _ HB11.out).mono ?_; rintro e w13 ⟨rfl, hB13⟩; have HB13' := Lib.hid (HB11.out.trans (hB13.mono HB11.out.size)); clear hB13))
  go_ret
  exact ⟨rfl, HB14.out.trans (HB13'.out.mono HB14.out.size)⟩
end Go.Proofs.YtpknnjcbcndbbaaDoor
