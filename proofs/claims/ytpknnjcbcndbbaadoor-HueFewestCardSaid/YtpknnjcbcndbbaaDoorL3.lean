/- HueFewest: the walk of the law. -/
import Derived.Test.YtpknnjcbcndbbaaDoorH01
set_option linter.unusedVariables false
set_option linter.unusedSimpArgs false
namespace Go.Proofs.YtpknnjcbcndbbaaDoor
open Go.RowKit Go.Shelf

set_option maxRecDepth 100000 in
set_option maxHeartbeats 4000000 in
theorem law3 (n : Int) (a : Option Addr) (cap : Nat) (ps : List (Int × Int)) (w : World) (h : PairsIn w a cap ps) (hT : Tab w) :
    Calls Tryd.prog 3 #[.int .i64 n, .slice a ps.length cap] w fun e w' => e = .returned (.bool true) ∧ Below w.heap.size w w' := by
  have HTM := Lib.hid (tame_any n a cap ps 10 w h (by decide) (by decide))
  have HT := Lib.hid hT
  clear h hT
  go_enter Tryd.func3, Tryd.ntmps3
  go_upto_region 2 with (go_at_call 14; refine (HTM.out).mono ?_; rintro e w1 ⟨m, qs, a1, c1, rfl, hm, hG1, hB1⟩; have HG1 := Lib.hid hG1; have HB1 := Lib.hid hB1; clear hG1 hB1)
  have hT1 := HT.out.below HB1.out (Nat.le_refl _)
  have HAW : Hid (∀ W, Below w.heap.size w W → Calls Tryd.prog 16 #[] W fun e w' => e = .returned (.bool true) ∧ Below W.heap.size W w') := fun W hW => awake_any W (HT.out.below hW (Nat.le_refl _))
  by_cases hm8 : 8 < m
  · have HF := Lib.hid (Fewest_long m a1 c1 qs w1 HG1.out hm8)
    have h8 : 8 < (m : Int) := by omega
    clear hm8 hT1
    go_wp2_with (first
      | (go_at_call 15; refine (HF.out).mono ?_; rintro e w2 ⟨rfl, hB2⟩; have HB2 := Lib.hid (HB1.out.trans (hB2.mono HB1.out.size)); clear hB2)
      | (go_at_call 16; refine (HAW.out _ HB2.out).mono ?_; rintro e w3 ⟨rfl, hB3⟩; have HB3 := Lib.hid (HB2.out.trans (hB3.mono HB2.out.size)); clear hB3))
    go_ret
    exact ⟨rfl, HB3.out⟩
  · have HF := Lib.hid (Fewest_ok m a1 c1 qs w1 hT1 HG1.out (by omega))
    have h8 : ¬ 8 < (m : Int) := by omega
    have HE := Lib.hid (edgesOK HG1.out.n2 HG1.out.ok)
    have hlen := HG1.out.hl
    clear hm8 hT1
    go_upto_region 3 with (go_at_call 15; refine (HF.out).mono ?_; rintro e w2 ⟨⟨v2, us2, col2, rfl, hq2, hi2, ha2, hb2⟩, hB2⟩; obtain ⟨p2, c2, rfl⟩ := hq2.isSlice; have HQ2 := Lib.hid hq2; have HI2 := Lib.hid hi2; have HA2 := Lib.hid ha2; have HW2 := Lib.hid hb2; have HL2 := Lib.hid hB2; have HB2 := Lib.hid (HB1.out.trans (hB2.mono HB1.out.size)); clear hq2 hi2 ha2 hb2 hB2)
    have HG2 := Lib.hid (HG1.out.below HL2.out)
    have HF2 := Lib.hid (HQ2.out.srcI (hl_get col2 qs))
    have HP2 := Lib.hid (proper_of HE.out HI2.out HA2.out)
    have H17 : Hid (∀ W, Below w2.heap.size w2 W → Calls Tryd.prog 17 #[.slice a1 qs.length c1, .slice p2 qs.length c2] W fun e w' => e = .returned (.bool true) ∧ w' = W) := fun W hW => hues_true a1 p2 c1 qs.length c2 _ W hlen (HF2.out.below hW (Nat.le_refl _)) (hf_nonneg col2 qs)
    have H18 : Hid (∀ W, Below w2.heap.size w2 W → Calls Tryd.prog 18 #[.slice a1 qs.length c1, .slice p2 qs.length c2] W fun e w' => e = .returned (.bool true) ∧ Below W.heap.size W w') := fun W hW => proper_true a1 p2 c1 c2 qs _ W hlen (HG2.out.hg.below hW (Nat.le_refl _)) (HF2.out.below hW (Nat.le_refl _)) HP2.out
    have H21 : Hid (∀ W, Below w2.heap.size w2 W → Calls Tryd.prog 21 #[.int .i64 (m : Int), .slice a1 qs.length c1] W fun e w' => ∃ b, e = .returned (.slice (some ⟨b, 0, none⟩) m m) ∧ W.heap.size ≤ b ∧ Sets w' (some ⟨b, 0, none⟩) (ofE m qs) ∧ Below W.heap.size W w') := fun W hW => of_any m a1 c1 qs W (HG2.out.below hW)
    have H20 : Hid (∀ b W, Below w2.heap.size w2 W → Sets W (some ⟨b, 0, none⟩) (ofE m qs) → Calls Tryd.prog 20 #[.slice (some ⟨b, 0, none⟩) m m, .slice a1 qs.length c1] W fun e w' => FewR (ofE m qs) m (dgTo (ofE m qs) 16) qs e ∧ Below W.heap.size W w') := fun b W hW hS => rfewest_any m a1 (some ⟨b, 0, none⟩) c1 m qs W (HG2.out.below hW) hS
    have H19 : Hid (∀ (k : Nat) W, Below w2.heap.size w2 W → (k = dgTo (ofE m qs) 16 ∨ k = dgTo (ofE m qs) 16 + 1) → (k = dgTo (ofE m qs) 16 → (∀ s, s < pw m → ¬ Over (ofE m qs) m (dgTo (ofE m qs) 16) s) ∧ ∃ col, HueOK (ofE m qs) qs (fun _ => low (dgTo (ofE m qs) 16)) col) → Calls Tryd.prog 19 #[.slice p2 qs.length c2, .int .i64 (k : Int)] W fun e w' => e = .returned (.bool true) ∧ w' = W) := fun k W hW h1 h2 => by
      refine below_true p2 qs.length c2 _ _ W hlen (HF2.out.below hW (Nat.le_refl _)) (hf_below HA2.out fun q hq x hx => ?_)
      rcases HW2.out with h | ⟨h, h'⟩
      · have := h q hq x hx; omega
      · have := h q hq x hx
        rcases h1 with h1 | h1
        · obtain ⟨h3, h4⟩ := h2 h1
          rcases h' with ⟨s, hs, ho⟩ | hn
          · exact absurd ho (h3 s hs)
          · exact absurd h4 hn
        · omega
    have HRF := Lib.hid (Below.refl w2.heap.size w2)
    clear HF HTM
    go_wp2_with (first
      | (go_at_call 17; refine (H17.out _ HRF.out).mono ?_; rintro e w5 ⟨rfl, hw5⟩; subst hw5; try dsimp only)
      | (go_at_call 18; refine (H18.out _ HRF.out).mono ?_; rintro e w6 ⟨rfl, hB6⟩; have HB6 := Lib.hid hB6; clear hB6)
      | (go_at_call 21; refine (H21.out _ HB6.out).mono ?_; rintro e w7 ⟨b7, rfl, -, hS7, hB7⟩; have HS7 := Lib.hid hS7; have HB7 := Lib.hid (HB6.out.trans (hB7.mono HB6.out.size)); clear hS7 hB7)
      | (go_at_call 20; refine (H20.out b7 _ HB7.out HS7.out).mono ?_; rintro e w8 ⟨⟨k8, rfl, hk8, hk9⟩, hB8⟩; have HK8 := Lib.hid hk8; have HK9 := Lib.hid hk9; have HB8 := Lib.hid (HB7.out.trans (hB8.mono HB7.out.size)); clear hk8 hk9 hB8)
      | (go_at_call 19; refine (H19.out k8 _ HB8.out HK8.out HK9.out).mono ?_; rintro e w9 ⟨rfl, hw9⟩; subst hw9; try dsimp only)
      | (go_at_call 16; refine (HAW.out _ (HB2.out.trans (HB8.out.mono HB2.out.size))).mono ?_; rintro e w10 ⟨rfl, hB10⟩; have HB10 := Lib.hid (HB8.out.trans (hB10.mono HB8.out.size)); clear hB10))
    go_ret
    exact ⟨rfl, HB2.out.trans (HB10.out.mono HB2.out.size)⟩
end Go.Proofs.YtpknnjcbcndbbaaDoor
