/- HueGalvin: the walk of the law. -/
import Derived.Test.YtpknnjcbcndbbaaDoorG1202
import Derived.Test.YtpknnjcbcndbbaaDoorG1201
import Derived.Test.YtpknnjcbcndbbaaDoorG1203
import Derived.Test.YtpknnjcbcndbbaaDoorG1206
set_option linter.unusedVariables false
set_option linter.unusedSimpArgs false
namespace Go.Proofs.YtpknnjcbcndbbaaDoor
open Go.RowKit Go.Shelf

set_option maxRecDepth 100000 in
set_option maxHeartbeats 4000000 in
theorem law12 (x y : Int) (z : Bool) (a : Option Addr) (cap : Nat) (ps : List (Int × Int)) (a2 : Option Addr) (cap2 : Nat) (xs : List (List Int)) (w : World) (h : PairsIn w a cap ps) (h2 : ListsIn w a2 cap2 xs) (hT : Tab w) :
    Calls Tryd.prog 12 #[.agg #[.int .i64 x, .int .i64 y, .bool z], .slice a ps.length cap, .slice a2 xs.length cap2] w fun e w' => e = .returned (.bool true) ∧ Below w.heap.size w w' := by
  have HT := Lib.hid hT
  have HTM := Lib.hid (fun W (hW : Below w.heap.size w W) => tame_any x a cap ps 16 W ⟨h.g.below hW (Nat.le_refl _), h.fits, h.capm, h.nil⟩ (by decide) (by decide))
  have HSD := Lib.hid (fun W (hW : Below w.heap.size w W) => sided_any x a cap ps 16 W ⟨h.g.below hW (Nat.le_refl _), h.fits, h.capm, h.nil⟩ (by decide) (by decide))
  have HLI : Hid (∀ W, Below w.heap.size w W → Calls Tryd.prog 37 #[.slice a2 xs.length cap2] W fun e w' => (∃ p c m ls, e = .returned (.slice p m c) ∧ m ≤ 125 ∧ (∀ i, (ls i).length ≤ 70) ∧ LRow w' W.heap.size (.slice p m c) m ls) ∧ Below W.heap.size W w') := fun W hW => lists_copy a2 cap2 xs W (h2.below hW (Nat.le_refl _))
  have HFI := Lib.hid (fun W (m d : Nat) (hW : Below w.heap.size w W) (hm : m ≤ 1099511627776) (hd : d ≤ 16) => filled_any a2 cap2 m d xs W (h2.below hW (Nat.le_refl _)) hm hd)
  clear h h2 hT
  have HBX0 : Hid (BoxN (w.alloc (.cells #[.int .i64 x, .int .i64 y, .bool z] 71)) w.heap.size 71 #[.int .i64 x, .int .i64 y, .bool z]) := BoxN.new rfl
  have HB0 : Hid (Below w.heap.size w (w.alloc (.cells #[.int .i64 x, .int .i64 y, .bool z] 71))) := (Below.refl _ _).alloc (Nat.le_refl _) _
  go_enter Tryd.func12, Tryd.ntmps12
  go_upto_region 1 with (fail)
  generalize w.alloc (.cells #[.int .i64 x, .int .i64 y, .bool z] 71) = w0 at *
  have c0 : w0.cell? ⟨w.heap.size, 0, none⟩ = some (.int .i64 x) := HBX0.out.cell 0
  have c2 : Hid (∀ W, Below w0.heap.size w0 W → W.cell? ⟨w.heap.size, 2, none⟩ = some (.bool z) ∧ W.cell? ⟨w.heap.size, 0, none⟩ = some (.int .i64 x)) := fun W hW => ⟨(hW.cell (p := ⟨w.heap.size, 2, none⟩) HBX0.out.lt).trans (HBX0.out.cell 2), (hW.cell (p := ⟨w.heap.size, 0, none⟩) HBX0.out.lt).trans (HBX0.out.cell 0)⟩
  clear HBX0
  go_upto_region 2 with (go_at_call 14; refine (HTM.out w0 HB0.out).mono ?_; rintro e w1 ⟨m, qs, a1, c1, rfl, hm, hG1, hB1⟩; have HG1 := Lib.hid hG1; have HBB := Lib.hid hB1; have HB1 := Lib.hid (HB0.out.trans (hB1.mono HB0.out.size)); clear hG1 hB1)
  clear c0 HTM
  obtain ⟨d2, d0⟩ := c2.out w1 HBB.out
  cases z with
  | false =>
    go_upto_region 4 with (fail)
    clear HSD d2 d0 c2 HBB HB0
    have hm1 := HG1.out.n1
    have hm16 := HG1.out.n2
    have hlen := HG1.out.hl
    have HSM := Lib.hid (ofE_sm HG1.out.n2 HG1.out.ok)
    have HLN := Lib.hid (ofE_length m qs)
    have HU := Lib.hid (und_ofE HG1.out.ok)
    have hdb := (dg_bounds HG1.out.n1 HG1.out.n2 HG1.out.ok).2
    have HOF := Lib.hid (of_any m a1 c1 qs w1 HG1.out)
    have HGL := Lib.hid (fun la ml lc ls W hT hG h1 h2 h3 => Galvin_ok m a1 la c1 ml lc qs ls W hT hG h1 h2 h3)
    have HPR := Lib.hid (fun W p c f (hP : Pairs W a1 qs) (hS : SrcI W p qs.length f) (hp : ProperI qs f) => proper_true a1 p c1 c qs f W hlen hP hS hp)
    obtain ⟨len, HLE⟩ : ∃ len, Hid (qs.length = len) := ⟨_, rfl⟩
    obtain ⟨g, hg⟩ : ∃ g, Hid (g = ofE m qs) := ⟨_, rfl⟩
    rw [← hg.out] at HSM HLN HU HGL HOF hdb
    obtain ⟨D, hD⟩ : ∃ D, Hid (D = dgTo g 16) := ⟨_, rfl⟩
    rw [← hD.out] at HGL hdb
    have hD16 : D ≤ 16 := by omega
    have hGA : Hid (∀ ls ml W e, GalA g m D qs ls ml W e → (e = .returned (.tuple #[.slice none 0 0, .int .i64 70]) ∧ ¬ ListsP ls ml len) ∨
      (e = .returned (.tuple #[.slice none 0 0, .int .i64 4]) ∧ ListsP ls ml len ∧ SidesR g m 0 false) ∨
      (e = .returned (.tuple #[.slice none 0 0, .int .i64 1]) ∧ ListsP ls ml len ∧ (∃ s, SidesR g m s true) ∧ ∃ i, i < ml ∧ (ls i).length < D) ∨
      (∃ (p : Option Addr) (out : Nat → Nat), e = .returned (.tuple #[.slice p len len, .int .i64 0]) ∧ ListsP ls ml len ∧ (∃ s, SidesR g m s true) ∧ (∀ i, i < ml → D ≤ (ls i).length) ∧ SrcI W p len (fun i => ((out i : Nat) : Int)) ∧ (∀ i, i < ml → ((out i : Nat) : Int) ∈ ls i) ∧ ProperI qs (fun i => (out i : Int)))) := fun ls ml W e h => by rw [← HLE.out]; exact h
    rw [HLE.out] at HGL HPR HOF hlen ⊢
    go_upto_region 5 with (go_at_call 21; refine (HOF.out).mono ?_; rintro e w2 ⟨b2, rfl, hb2, hS2, hB2⟩; have HS2 := Lib.hid hS2; have HG2 := Lib.hid (HG1.out.below hB2); have HB2 := Lib.hid (HB1.out.trans (hB2.mono HB1.out.size)); clear hS2 hB2 hb2)
    have HL := Lib.hid (HLI.out w2 HB2.out)
    have HDG : Hid (∀ W, Below w2.heap.size w2 W → Calls Tryd.prog 27 #[.slice (some ⟨b2, 0, none⟩) m m] W fun e w' => e = .returned (.int .i64 (D : Nat)) ∧ w' = W) := fun W hW => by rw [hD.out]; exact rdegree_any m _ m g W HLN.out hm16 HSM.out (HS2.out.keep hW (Nat.le_refl _))
    have HRS : Hid (∀ W, Below w2.heap.size w2 W → Calls Tryd.prog 30 #[.slice (some ⟨b2, 0, none⟩) m m] W fun e w' => SidesA g m e ∧ w' = W) := fun W hW => rsides_any m _ m g W HLN.out hm16 HU.out HSM.out (HS2.out.keep hW (Nat.le_refl _))
    clear HLI HOF
    go_upto_region 6 with (go_at_call 37; refine (HL.out).mono ?_; rintro e w3 ⟨⟨p3, c3, m3, ls3, rfl, hm3, hl3, hr3⟩, hB3⟩; have HL3 := Lib.hid hl3; have HR3 := Lib.hid hr3.lst; have HB3 := Lib.hid hB3; clear hB3 hl3 hr3)
    clear HL HG1
    have hsz2 := HB2.out.size
    go_upto_region 7 with (fail)
    go_loopw [10, 11] (fun s10 s11 wr => ∃ (k : Nat) (p : Option Addr) (c ml : Nat) (ls : Nat → List Int), k ≤ 2 ∧ ml ≤ 1099511627776 ∧ s11 = .int .i64 (k : Int) ∧ s10 = .slice p ml c ∧ Hid (LstI wr p ml ls) ∧ Hid (∀ i, (ls i).length ≤ 1000) ∧ Hid (Below w2.heap.size w2 wr)) (fun _ s11 _ => 4 - (intOf s11).toNat)
    case atStart => exact ⟨0, p3, c3, m3, ls3, by omega, by omega, rfl, rfl, HR3, (fun i => Nat.le_trans (HL3.out i) (by decide)), HB3⟩
    case round =>
      clear HR3 HL3 HB3
      obtain ⟨k, p, c, ml, ls, hk, hml, rfl, rfl, hL, hll, hB⟩ := hrel
      have HBW := Lib.hid (HB2.out.trans (hB.out.mono hsz2))
      have HGW := Lib.hid (HG2.out.below hB.out)
      by_cases hk2 : k < 2
      · have g1 : (k : Int) < 2 := by omega
        obtain ⟨wo, hwo⟩ : ∃ wo, Hid (wo = wr) := ⟨_, rfl⟩
        rw [← hwo.out] at hL hB HBW HGW ⊢
        clear hwo
        have HC1 := Lib.hid (HGL.out p ml c ls wo (HT.out.below HBW.out (Nat.le_refl _)) HGW.out hml hll.out hL.out)
        clear HGL
        go_upto_region 10 with (go_at_call 49; refine (HC1.out).mono ?_; rintro e w3 ⟨hg3, hB3⟩; have HB3 := Lib.hid hB3; clear hB3; rcases hGA.out _ _ _ _ hg3 with ⟨rfl, hn3⟩ | ⟨rfl, hp3, hs3⟩ | ⟨rfl, hp3, ⟨s3, hs3⟩, hx3⟩ | ⟨p3, f3, rfl, hp3, ⟨s3, hs3⟩, hx3, hS3, hF3, hP3⟩)
        · have HV : (false = true ↔ ListsP ls ml len) := ⟨(fun h => by cases h), fun h => absurd h hn3⟩
          clear hg3 hn3
          have HLA := Lib.hid (lists_any p ml len c ls w3 hml hll.out (hL.out.below HB3.out (Nat.le_refl _)))
          have HS := Lib.hid (HRS.out w3 (hB.out.trans (HB3.out.mono hB.out.size)))
          go_upto_region 17 with (first
            | (go_at_call 30; refine HS.out.mono ?_; rintro e w30 ⟨⟨s30, two30, rfl, hs30⟩, hw30⟩; clear hs30; subst hw30; try dsimp only)
            | (go_at_call 39; refine (HLA.out).mono ?_; rintro e w4 ⟨h4, hB4⟩; obtain rfl := h4.dec (b := false) HV; have HB4 := Lib.hid (HB3.out.trans (hB4.mono HB3.out.size)); clear h4 hB4; try dsimp only))
          clear HLA HS HV
          go_loopw [16, 17] (fun s16 s17 wq => s16 = .int .i64 70 ∧ s17 = .int .i64 0 ∧ Hid (Below wo.heap.size wo wq)) (fun _ _ _ => 0)
          case atStart => exact ⟨rfl, rfl, HB4⟩
          case round =>
            clear HB4
            obtain ⟨rfl, rfl, hBq⟩ := hrel
            by_cases hm0 : ml = 0
            · have d0 : decide ((0 : Int) < (ml : Int)) = false := decide_eq_false (by omega)
              have d1 : decide (0 < ml) = false := decide_eq_false (by omega)
              have HBX := Lib.hid (hB.out.trans (hBq.out.mono hB.out.size))
              have HBZ := Lib.hid (HB2.out.trans (HBX.out.mono hsz2))
              have HDC := Lib.hid (HDG.out _ HBX.out)
              have HFC := Lib.hid (HFI.out _ len D HBZ.out (by omega) hD16)
              go_wp2_with (first
                | (go_at_call 27; refine (HDC.out).mono ?_; rintro e w8 ⟨rfl, hw8⟩; subst hw8; try dsimp only)
                | (go_at_call 42; refine (HFC.out).mono ?_; rintro e w9 ⟨⟨p9, c9, ls9, rfl, hl9, -, hr9⟩, hB9⟩; have HL9 := Lib.hid hl9; have HR9 := Lib.hid hr9.lst; have HB9 := Lib.hid (HBX.out.trans (hB9.mono HBX.out.size)); clear hl9 hr9 hB9))
              exact ⟨⟨k + 1, p9, c9, len, ls9, by omega, by omega, int_eq (by omega), rfl, HR9, (fun i => Nat.le_trans (HL9.out i) (by decide)), HB9⟩, by simp [intOf]; omega⟩
            · have d0 : decide ((0 : Int) < (ml : Int)) = true := decide_eq_true (by omega)
              have d1 : decide (0 < ml) = true := decide_eq_true (by omega)
              have HBX := Lib.hid (hB.out.trans (hBq.out.mono hB.out.size))
              have HBZ := Lib.hid (HB2.out.trans (HBX.out.mono hsz2))
              have HDC := Lib.hid (HDG.out _ HBX.out)
              have HFC := Lib.hid (HFI.out _ len D HBZ.out (by omega) hD16)
              go_wp2_with (first
                | (go_at_call 27; refine (HDC.out).mono ?_; rintro e w8 ⟨rfl, hw8⟩; subst hw8; try dsimp only)
                | (go_at_call 42; refine (HFC.out).mono ?_; rintro e w9 ⟨⟨p9, c9, ls9, rfl, hl9, -, hr9⟩, hB9⟩; have HL9 := Lib.hid hl9; have HR9 := Lib.hid hr9.lst; have HB9 := Lib.hid (HBX.out.trans (hB9.mono HBX.out.size)); clear hl9 hr9 hB9))
              exact ⟨⟨k + 1, p9, c9, len, ls9, by omega, by omega, int_eq (by omega), rfl, HR9, (fun i => Nat.le_trans (HL9.out i) (by decide)), HB9⟩, by simp [intOf]; omega⟩
        · have HV : (true = true ↔ ListsP ls ml len) := ⟨fun _ => hp3, fun _ => rfl⟩
          have HS3 := Lib.hid hs3
          clear hg3 hs3
          have HLA := Lib.hid (lists_any p ml len c ls w3 hml hll.out (hL.out.below HB3.out (Nat.le_refl _)))
          have HS := Lib.hid (HRS.out w3 (hB.out.trans (HB3.out.mono hB.out.size)))
          go_upto_region 17 with (first
            | (go_at_call 30; refine HS.out.mono ?_; rintro e w30 ⟨⟨s30, two30, rfl, hs30⟩, hw30⟩; obtain ⟨rfl, rfl⟩ := SidesR.unique HU.out hs30 HS3.out; clear hs30; subst hw30; try dsimp only)
            | (go_at_call 39; refine (HLA.out).mono ?_; rintro e w4 ⟨h4, hB4⟩; obtain rfl := h4.dec (b := true) HV; have HB4 := Lib.hid (HB3.out.trans (hB4.mono HB3.out.size)); clear h4 hB4; try dsimp only))
          clear HLA HS HV hp3
          go_loopw [16, 17] (fun s16 s17 wq => s16 = .int .i64 4 ∧ s17 = .int .i64 0 ∧ Hid (Below wo.heap.size wo wq)) (fun _ _ _ => 0)
          case atStart => exact ⟨rfl, rfl, HB4⟩
          case round =>
            clear HB4
            obtain ⟨rfl, rfl, hBq⟩ := hrel
            by_cases hm0 : ml = 0
            · have d0 : decide ((0 : Int) < (ml : Int)) = false := decide_eq_false (by omega)
              have d1 : decide (0 < ml) = false := decide_eq_false (by omega)
              have HBX := Lib.hid (hB.out.trans (hBq.out.mono hB.out.size))
              have HBZ := Lib.hid (HB2.out.trans (HBX.out.mono hsz2))
              have HDC := Lib.hid (HDG.out _ HBX.out)
              have HFC := Lib.hid (HFI.out _ len D HBZ.out (by omega) hD16)
              go_wp2_with (first
                | (go_at_call 27; refine (HDC.out).mono ?_; rintro e w8 ⟨rfl, hw8⟩; subst hw8; try dsimp only)
                | (go_at_call 42; refine (HFC.out).mono ?_; rintro e w9 ⟨⟨p9, c9, ls9, rfl, hl9, -, hr9⟩, hB9⟩; have HL9 := Lib.hid hl9; have HR9 := Lib.hid hr9.lst; have HB9 := Lib.hid (HBX.out.trans (hB9.mono HBX.out.size)); clear hl9 hr9 hB9))
              exact ⟨⟨k + 1, p9, c9, len, ls9, by omega, by omega, int_eq (by omega), rfl, HR9, (fun i => Nat.le_trans (HL9.out i) (by decide)), HB9⟩, by simp [intOf]; omega⟩
            · have d0 : decide ((0 : Int) < (ml : Int)) = true := decide_eq_true (by omega)
              have d1 : decide (0 < ml) = true := decide_eq_true (by omega)
              have HBX := Lib.hid (hB.out.trans (hBq.out.mono hB.out.size))
              have HBZ := Lib.hid (HB2.out.trans (HBX.out.mono hsz2))
              have HDC := Lib.hid (HDG.out _ HBX.out)
              have HFC := Lib.hid (HFI.out _ len D HBZ.out (by omega) hD16)
              go_wp2_with (first
                | (go_at_call 27; refine (HDC.out).mono ?_; rintro e w8 ⟨rfl, hw8⟩; subst hw8; try dsimp only)
                | (go_at_call 42; refine (HFC.out).mono ?_; rintro e w9 ⟨⟨p9, c9, ls9, rfl, hl9, -, hr9⟩, hB9⟩; have HL9 := Lib.hid hl9; have HR9 := Lib.hid hr9.lst; have HB9 := Lib.hid (HBX.out.trans (hB9.mono HBX.out.size)); clear hl9 hr9 hB9))
              exact ⟨⟨k + 1, p9, c9, len, ls9, by omega, by omega, int_eq (by omega), rfl, HR9, (fun i => Nat.le_trans (HL9.out i) (by decide)), HB9⟩, by simp [intOf]; omega⟩
        · have HV : (true = true ↔ ListsP ls ml len) := ⟨fun _ => hp3, fun _ => rfl⟩
          have HS3 := Lib.hid hs3
          have HX3 := Lib.hid hx3
          clear hg3 hs3 hx3
          have HLA := Lib.hid (lists_any p ml len c ls w3 hml hll.out (hL.out.below HB3.out (Nat.le_refl _)))
          have HS := Lib.hid (HRS.out w3 (hB.out.trans (HB3.out.mono hB.out.size)))
          go_upto_region 17 with (first
            | (go_at_call 30; refine HS.out.mono ?_; rintro e w30 ⟨⟨s30, two30, rfl, hs30⟩, hw30⟩; obtain ⟨rfl, rfl⟩ := SidesR.unique HU.out hs30 HS3.out; clear hs30; subst hw30; try dsimp only)
            | (go_at_call 39; refine (HLA.out).mono ?_; rintro e w4 ⟨h4, hB4⟩; obtain rfl := h4.dec (b := true) HV; have HB4 := Lib.hid (HB3.out.trans (hB4.mono HB3.out.size)); clear h4 hB4; try dsimp only))
          clear HLA HS HV hp3
          go_loopw [16, 17] (fun s16 s17 wq => ∃ (i : Nat) (wv : Int), s16 = .int .i64 wv ∧ s17 = .int .i64 (i : Int) ∧ Hid ((wv = 0 ∧ i ≤ ml ∧ ∀ j, j < i → D ≤ (ls j).length) ∨ (wv = 1 ∧ i ≤ ml)) ∧ Hid (Below wo.heap.size wo wq)) (fun _ s17 _ => ml + 1 - (intOf s17).toNat)
          case atStart => exact ⟨0, 0, rfl, rfl, .inl ⟨rfl, by omega, fun j hj => by omega⟩, HB4⟩
          case round =>
            clear HB4
            obtain ⟨i, wv, rfl, rfl, hst, hBq⟩ := hrel
            by_cases hwv : wv = 0
            · subst hwv
              have hst2 : i ≤ ml ∧ ∀ j, j < i → D ≤ (ls j).length := by
                rcases hst.out with ⟨_, h⟩ | ⟨h, _⟩
                · exact h
                · cases h
              have hil := hst2.1
              have HDJ := Lib.hid hst2.2
              clear hst2 hst
              have hiL : i < ml := Classical.byContradiction fun hn => by
                obtain ⟨j, hj, hlt⟩ := HX3.out
                have := HDJ.out j (by omega)
                omega
              obtain ⟨lb, lo, el, hlb, hlc⟩ := (hL.out.below hBq.out (Nat.le_refl _)) (by omega)
              obtain ⟨lp, lc2, k2, -⟩ := hlc i hiL
              have r0 : ∀ d : BW wr.heap.size wr, d.w.cell? ⟨lb, lo + i, none⟩ = some (.slice lp (ls i).length lc2) := fun d => d.cell hlb k2
              have HC : Hid (∀ d : BW wr.heap.size wr, Calls Tryd.prog 27 #[.slice (some ⟨b2, 0, none⟩) m m] d.w fun e w' => e = .returned (.int .i64 (D : Nat)) ∧ ∃ d' : BW wr.heap.size wr, w' = d'.w) := fun d => (HDG.out d.w ((hB.out.trans (hBq.out.mono hB.out.size)).trans (d.b.mono (Nat.le_trans hB.out.size hBq.out.size)))).mono fun e w' ⟨h1, h2⟩ => ⟨h1, d, h2⟩
              have hli := hll.out i
              obtain ⟨z, hz⟩ : ∃ z, Hid (z = (ls i).length) := ⟨_, rfl⟩
              rw [← hz.out] at r0 hli
              have g3 : (i : Int) < (ml : Int) := by omega
              have d3 : decide ((i : Int) < (ml : Int)) = true := decide_eq_true g3
              have d4 : decide (i < ml) = true := decide_eq_true hiL
              subst el
              clear hlc k2
              by_cases hlt : z < D
              · have g4 : (z : Int) < (D : Int) := by omega
                have d5 : decide (z < D) = true := decide_eq_true hlt
                go_upto_region 19 with (fail)
                refine wp_region_bw (by kernel_rfl) (by kernel_rfl) ?_
                repeat (go_big_quiet_step ((first
                  | rfl
                  | (go_at_call 27; exact HC.out _))))
                refine wpQuiet_nil ?_
                rintro _ ⟨d, rfl⟩
                have HBD := Lib.hid (hBq.out.trans (d.b.mono hBq.out.size))
                clear r0 HC
                generalize d.w = Z at *
                go_wp2
                exact ⟨⟨i + 1, 1, rfl, int_eq (by omega), .inr ⟨rfl, by omega⟩, HBD⟩, by simp [intOf]; omega⟩
              · have g4 : ¬ (z : Int) < (D : Int) := by omega
                have d5 : decide (z < D) = false := decide_eq_false hlt
                have HNN : Hid (((0 : Int) = 0 ∧ i + 1 ≤ ml ∧ ∀ j, j < i + 1 → D ≤ (ls j).length) ∨ ((0 : Int) = 1 ∧ i + 1 ≤ ml)) := .inl ⟨rfl, by omega, fun j hj => by
                  by_cases e : j = i
                  · subst e; rw [← hz.out]; omega
                  · exact HDJ.out j (by omega)⟩
                go_upto_region 19 with (fail)
                refine wp_region_bw (by kernel_rfl) (by kernel_rfl) ?_
                repeat (go_big_quiet_step ((first
                  | rfl
                  | (go_at_call 27; exact HC.out _))))
                refine wpQuiet_nil ?_
                rintro _ ⟨d, rfl⟩
                have HBD := Lib.hid (hBq.out.trans (d.b.mono hBq.out.size))
                clear r0 HC
                generalize d.w = Z at *
                go_wp2
                exact ⟨⟨i + 1, 0, rfl, int_eq (by omega), HNN, HBD⟩, by simp [intOf]; omega⟩
            · obtain rfl : wv = 1 := by
                rcases hst.out with ⟨h, _⟩ | ⟨h, _⟩
                · exact absurd h hwv
                · exact h
              clear hst hwv
              by_cases hiL : i < ml
              · have d3 : decide ((i : Int) < (ml : Int)) = true := decide_eq_true (by omega)
                have d4 : decide (i < ml) = true := decide_eq_true hiL
                have HBX := Lib.hid (hB.out.trans (hBq.out.mono hB.out.size))
                have HBZ := Lib.hid (HB2.out.trans (HBX.out.mono hsz2))
                have HDC := Lib.hid (HDG.out _ HBX.out)
                have HFC := Lib.hid (HFI.out _ len D HBZ.out (by omega) hD16)
                go_wp2_with (first
                  | (go_at_call 27; refine (HDC.out).mono ?_; rintro e w8 ⟨rfl, hw8⟩; subst hw8; try dsimp only)
                  | (go_at_call 42; refine (HFC.out).mono ?_; rintro e w9 ⟨⟨p9, c9, ls9, rfl, hl9, -, hr9⟩, hB9⟩; have HL9 := Lib.hid hl9; have HR9 := Lib.hid hr9.lst; have HB9 := Lib.hid (HBX.out.trans (hB9.mono HBX.out.size)); clear hl9 hr9 hB9))
                exact ⟨⟨k + 1, p9, c9, len, ls9, by omega, by omega, int_eq (by omega), rfl, HR9, (fun i => Nat.le_trans (HL9.out i) (by decide)), HB9⟩, by simp [intOf]; omega⟩
              · have d3 : decide ((i : Int) < (ml : Int)) = false := decide_eq_false (by omega)
                have d4 : decide (i < ml) = false := decide_eq_false hiL
                have HBX := Lib.hid (hB.out.trans (hBq.out.mono hB.out.size))
                have HBZ := Lib.hid (HB2.out.trans (HBX.out.mono hsz2))
                have HDC := Lib.hid (HDG.out _ HBX.out)
                have HFC := Lib.hid (HFI.out _ len D HBZ.out (by omega) hD16)
                go_wp2_with (first
                  | (go_at_call 27; refine (HDC.out).mono ?_; rintro e w8 ⟨rfl, hw8⟩; subst hw8; try dsimp only)
                  | (go_at_call 42; refine (HFC.out).mono ?_; rintro e w9 ⟨⟨p9, c9, ls9, rfl, hl9, -, hr9⟩, hB9⟩; have HL9 := Lib.hid hl9; have HR9 := Lib.hid hr9.lst; have HB9 := Lib.hid (HBX.out.trans (hB9.mono HBX.out.size)); clear hl9 hr9 hB9))
                exact ⟨⟨k + 1, p9, c9, len, ls9, by omega, by omega, int_eq (by omega), rfl, HR9, (fun i => Nat.le_trans (HL9.out i) (by decide)), HB9⟩, by simp [intOf]; omega⟩
        · have HV : (true = true ↔ ListsP ls ml len) := ⟨fun _ => hp3, fun _ => rfl⟩
          have HS3 := Lib.hid hs3
          have HX3 := Lib.hid hx3
          have HSR := Lib.hid hS3
          have HPP := Lib.hid hP3
          have HFF : Hid (FromI (fun i => (f3 i : Int)) len ml ls) := ⟨hp3.2.symm, fun i hi => hF3 i (by rw [hp3.2]; exact hi)⟩
          clear hg3 hs3 hx3 hS3 hP3 hF3
          have HLA := Lib.hid (lists_any p ml len c ls w3 hml hll.out (hL.out.below HB3.out (Nat.le_refl _)))
          have HS := Lib.hid (HRS.out w3 (hB.out.trans (HB3.out.mono hB.out.size)))
          go_upto_region 17 with (first
            | (go_at_call 30; refine HS.out.mono ?_; rintro e w30 ⟨⟨s30, two30, rfl, hs30⟩, hw30⟩; obtain ⟨rfl, rfl⟩ := SidesR.unique HU.out hs30 HS3.out; clear hs30; subst hw30; try dsimp only)
            | (go_at_call 39; refine (HLA.out).mono ?_; rintro e w4 ⟨h4, hB4⟩; obtain rfl := h4.dec (b := true) HV; have HB4 := Lib.hid (HB3.out.trans (hB4.mono HB3.out.size)); have HB43 := Lib.hid hB4; clear h4 hB4; try dsimp only))
          clear HLA HS HV hp3
          go_loopw [16, 17] (fun s16 s17 wq => ∃ i : Nat, s16 = .int .i64 0 ∧ s17 = .int .i64 (i : Int) ∧ i ≤ ml ∧ Hid (Below w30.heap.size w30 wq)) (fun _ s17 _ => ml + 1 - (intOf s17).toNat)
          case atStart => exact ⟨0, rfl, rfl, by omega, HB43⟩
          case round =>
            clear HB4 HB43
            obtain ⟨i, rfl, rfl, hil, hBq3⟩ := hrel
            have hBq := Lib.hid (HB3.out.trans (hBq3.out.mono HB3.out.size))
            by_cases hiL : i < ml
            · skip
              obtain ⟨lb, lo, el, hlb, hlc⟩ := (hL.out.below hBq.out (Nat.le_refl _)) (by omega)
              obtain ⟨lp, lc2, k2, -⟩ := hlc i hiL
              have r0 : ∀ d : BW wr.heap.size wr, d.w.cell? ⟨lb, lo + i, none⟩ = some (.slice lp (ls i).length lc2) := fun d => d.cell hlb k2
              have HC : Hid (∀ d : BW wr.heap.size wr, Calls Tryd.prog 27 #[.slice (some ⟨b2, 0, none⟩) m m] d.w fun e w' => e = .returned (.int .i64 (D : Nat)) ∧ ∃ d' : BW wr.heap.size wr, w' = d'.w) := fun d => (HDG.out d.w ((hB.out.trans (hBq.out.mono hB.out.size)).trans (d.b.mono (Nat.le_trans hB.out.size hBq.out.size)))).mono fun e w' ⟨h1, h2⟩ => ⟨h1, d, h2⟩
              have hli := hll.out i
              obtain ⟨z, hz⟩ : ∃ z, Hid (z = (ls i).length) := ⟨_, rfl⟩
              rw [← hz.out] at r0 hli
              have g3 : (i : Int) < (ml : Int) := by omega
              have d3 : decide ((i : Int) < (ml : Int)) = true := decide_eq_true g3
              have d4 : decide (i < ml) = true := decide_eq_true hiL
              subst el
              clear hlc k2
              have hlt : ¬ z < D := by have := HX3.out i hiL; have := hz.out; omega
              have g4 : ¬ (z : Int) < (D : Int) := by omega
              have d5 : decide (z < D) = false := decide_eq_false hlt
              go_upto_region 19 with (fail)
              refine wp_region_bw (by kernel_rfl) (by kernel_rfl) ?_
              repeat (go_big_quiet_step ((first
                | rfl
                | (go_at_call 27; exact HC.out _))))
              refine wpQuiet_nil ?_
              rintro _ ⟨d, rfl⟩
              have HBD := Lib.hid (hBq3.out.trans (d.b.mono hBq3.out.size))
              clear r0 HC
              generalize d.w = Z at *
              go_wp2
              exact ⟨⟨i + 1, rfl, int_eq (by omega), by omega, HBD⟩, by simp [intOf]; omega⟩
            · have d3 : decide ((i : Int) < (ml : Int)) = false := decide_eq_false (by omega)
              have d4 : decide (i < ml) = false := decide_eq_false hiL
              have HFR := Lib.hid (from_any p3 p len len ml c _ ls wr (by omega) hll.out (HSR.out.below hBq3.out (Nat.le_refl _)) (hL.out.below hBq.out (Nat.le_refl _)))
              have HPRW : Hid (∀ W, Below wr.heap.size wr W → Calls Tryd.prog 18 #[.slice a1 len c1, .slice p3 len len] W fun e w' => e = .returned (.bool true) ∧ Below W.heap.size W w') := fun W hW => HPR.out W p3 len _ (HG2.out.hg.below (hB.out.trans (hBq.out.trans (hW.mono hBq.out.size) |>.mono hB.out.size)) (Nat.le_refl _)) (HSR.out.below (hBq3.out.trans (hW.mono hBq3.out.size)) (Nat.le_refl _)) HPP.out
              go_upto_region 26 with (first
                | (go_at_call 41; refine HFR.out.mono ?_; rintro e w5 ⟨h5, hB5⟩; obtain rfl := h5.dec (b := true) ⟨fun _ => HFF.out, fun _ => rfl⟩; have HB5 := Lib.hid hB5; clear h5 hB5; try dsimp only)
                | (go_at_call 18; refine (HPRW.out _ HB5.out).mono ?_; rintro e w6 ⟨rfl, hB6⟩; have HB6 := Lib.hid (hBq.out.trans ((HB5.out.trans (hB6.mono HB5.out.size)).mono hBq.out.size)); clear hB6; try dsimp only))
              have HBX := Lib.hid (hB.out.trans (HB6.out.mono hB.out.size))
              have HBZ := Lib.hid (HB2.out.trans (HBX.out.mono hsz2))
              have HDC := Lib.hid (HDG.out _ HBX.out)
              have HFC := Lib.hid (HFI.out _ len D HBZ.out (by omega) hD16)
              go_wp2_with (first
                | (go_at_call 27; refine (HDC.out).mono ?_; rintro e w8 ⟨rfl, hw8⟩; subst hw8; try dsimp only)
                | (go_at_call 42; refine (HFC.out).mono ?_; rintro e w9 ⟨⟨p9, c9, ls9, rfl, hl9, -, hr9⟩, hB9⟩; have HL9 := Lib.hid hl9; have HR9 := Lib.hid hr9.lst; have HB9 := Lib.hid (HBX.out.trans (hB9.mono HBX.out.size)); clear hl9 hr9 hB9))
              exact ⟨⟨k + 1, p9, c9, len, ls9, by omega, by omega, int_eq (by omega), rfl, HR9, (fun i => Nat.le_trans (HL9.out i) (by decide)), HB9⟩, by simp [intOf]; omega⟩
      · have g1 : ¬ (k : Int) < 2 := by omega
        have HAW : Hid (∀ W, Below wr.heap.size wr W → Calls Tryd.prog 16 #[] W fun e w' => e = .returned (.bool true) ∧ Below W.heap.size W w') := fun W hW => awake_any W (HT.out.below (HBW.out.trans (hW.mono HBW.out.size)) (Nat.le_refl _))
        clear hL HGL HFI
        go_wp2_with (go_at_call 16; refine (HAW.out _ (Below.refl _ _)).mono ?_; rintro e w6 ⟨rfl, hB6⟩; have HB6 := Lib.hid hB6; clear hB6)
        go_ret
        exact ⟨rfl, HBW.out.trans (HB6.out.mono HBW.out.size)⟩
  | true =>
    have HS1 := Lib.hid (HSD.out w1 HB1.out)
    have HBO := HB1
    clear HG1 hm
    go_upto_region 4 with (go_at_call 31; refine HS1.out.mono ?_; rintro e w1 ⟨m, qs, a1, c1, rfl, hm, hG1, -, hB1⟩; have HG1 := Lib.hid hG1; have HB1 := Lib.hid (HBO.out.trans (hB1.mono HBO.out.size)); clear hG1 hB1)
    clear HSD d2 d0 c2 HBB HB0 HS1 HBO
    have hm1 := HG1.out.n1
    have hm16 := HG1.out.n2
    have hlen := HG1.out.hl
    have HSM := Lib.hid (ofE_sm HG1.out.n2 HG1.out.ok)
    have HLN := Lib.hid (ofE_length m qs)
    have HU := Lib.hid (und_ofE HG1.out.ok)
    have hdb := (dg_bounds HG1.out.n1 HG1.out.n2 HG1.out.ok).2
    have HOF := Lib.hid (of_any m a1 c1 qs w1 HG1.out)
    have HGL := Lib.hid (fun la ml lc ls W hT hG h1 h2 h3 => Galvin_ok m a1 la c1 ml lc qs ls W hT hG h1 h2 h3)
    have HPR := Lib.hid (fun W p c f (hP : Pairs W a1 qs) (hS : SrcI W p qs.length f) (hp : ProperI qs f) => proper_true a1 p c1 c qs f W hlen hP hS hp)
    obtain ⟨len, HLE⟩ : ∃ len, Hid (qs.length = len) := ⟨_, rfl⟩
    obtain ⟨g, hg⟩ : ∃ g, Hid (g = ofE m qs) := ⟨_, rfl⟩
    rw [← hg.out] at HSM HLN HU HGL HOF hdb
    obtain ⟨D, hD⟩ : ∃ D, Hid (D = dgTo g 16) := ⟨_, rfl⟩
    rw [← hD.out] at HGL hdb
    have hD16 : D ≤ 16 := by omega
    have hGA : Hid (∀ ls ml W e, GalA g m D qs ls ml W e → (e = .returned (.tuple #[.slice none 0 0, .int .i64 70]) ∧ ¬ ListsP ls ml len) ∨
      (e = .returned (.tuple #[.slice none 0 0, .int .i64 4]) ∧ ListsP ls ml len ∧ SidesR g m 0 false) ∨
      (e = .returned (.tuple #[.slice none 0 0, .int .i64 1]) ∧ ListsP ls ml len ∧ (∃ s, SidesR g m s true) ∧ ∃ i, i < ml ∧ (ls i).length < D) ∨
      (∃ (p : Option Addr) (out : Nat → Nat), e = .returned (.tuple #[.slice p len len, .int .i64 0]) ∧ ListsP ls ml len ∧ (∃ s, SidesR g m s true) ∧ (∀ i, i < ml → D ≤ (ls i).length) ∧ SrcI W p len (fun i => ((out i : Nat) : Int)) ∧ (∀ i, i < ml → ((out i : Nat) : Int) ∈ ls i) ∧ ProperI qs (fun i => (out i : Int)))) := fun ls ml W e h => by rw [← HLE.out]; exact h
    rw [HLE.out] at HGL HPR HOF hlen ⊢
    go_upto_region 5 with (go_at_call 21; refine (HOF.out).mono ?_; rintro e w2 ⟨b2, rfl, hb2, hS2, hB2⟩; have HS2 := Lib.hid hS2; have HG2 := Lib.hid (HG1.out.below hB2); have HB2 := Lib.hid (HB1.out.trans (hB2.mono HB1.out.size)); clear hS2 hB2 hb2)
    have HL := Lib.hid (HLI.out w2 HB2.out)
    have HDG : Hid (∀ W, Below w2.heap.size w2 W → Calls Tryd.prog 27 #[.slice (some ⟨b2, 0, none⟩) m m] W fun e w' => e = .returned (.int .i64 (D : Nat)) ∧ w' = W) := fun W hW => by rw [hD.out]; exact rdegree_any m _ m g W HLN.out hm16 HSM.out (HS2.out.keep hW (Nat.le_refl _))
    have HRS : Hid (∀ W, Below w2.heap.size w2 W → Calls Tryd.prog 30 #[.slice (some ⟨b2, 0, none⟩) m m] W fun e w' => SidesA g m e ∧ w' = W) := fun W hW => rsides_any m _ m g W HLN.out hm16 HU.out HSM.out (HS2.out.keep hW (Nat.le_refl _))
    clear HLI HOF
    go_upto_region 6 with (go_at_call 37; refine (HL.out).mono ?_; rintro e w3 ⟨⟨p3, c3, m3, ls3, rfl, hm3, hl3, hr3⟩, hB3⟩; have HL3 := Lib.hid hl3; have HR3 := Lib.hid hr3.lst; have HB3 := Lib.hid hB3; clear hB3 hl3 hr3)
    clear HL HG1
    have hsz2 := HB2.out.size
    go_upto_region 7 with (fail)
    go_loopw [10, 11] (fun s10 s11 wr => ∃ (k : Nat) (p : Option Addr) (c ml : Nat) (ls : Nat → List Int), k ≤ 2 ∧ ml ≤ 1099511627776 ∧ s11 = .int .i64 (k : Int) ∧ s10 = .slice p ml c ∧ Hid (LstI wr p ml ls) ∧ Hid (∀ i, (ls i).length ≤ 1000) ∧ Hid (Below w2.heap.size w2 wr)) (fun _ s11 _ => 4 - (intOf s11).toNat)
    case atStart => exact ⟨0, p3, c3, m3, ls3, by omega, by omega, rfl, rfl, HR3, (fun i => Nat.le_trans (HL3.out i) (by decide)), HB3⟩
    case round =>
      clear HR3 HL3 HB3
      obtain ⟨k, p, c, ml, ls, hk, hml, rfl, rfl, hL, hll, hB⟩ := hrel
      have HBW := Lib.hid (HB2.out.trans (hB.out.mono hsz2))
      have HGW := Lib.hid (HG2.out.below hB.out)
      by_cases hk2 : k < 2
      · have g1 : (k : Int) < 2 := by omega
        obtain ⟨wo, hwo⟩ : ∃ wo, Hid (wo = wr) := ⟨_, rfl⟩
        rw [← hwo.out] at hL hB HBW HGW ⊢
        clear hwo
        have HC1 := Lib.hid (HGL.out p ml c ls wo (HT.out.below HBW.out (Nat.le_refl _)) HGW.out hml hll.out hL.out)
        clear HGL
        go_upto_region 10 with (go_at_call 49; refine (HC1.out).mono ?_; rintro e w3 ⟨hg3, hB3⟩; have HB3 := Lib.hid hB3; clear hB3; rcases hGA.out _ _ _ _ hg3 with ⟨rfl, hn3⟩ | ⟨rfl, hp3, hs3⟩ | ⟨rfl, hp3, ⟨s3, hs3⟩, hx3⟩ | ⟨p3, f3, rfl, hp3, ⟨s3, hs3⟩, hx3, hS3, hF3, hP3⟩)
        · have HV : (false = true ↔ ListsP ls ml len) := ⟨(fun h => by cases h), fun h => absurd h hn3⟩
          clear hg3 hn3
          have HLA := Lib.hid (lists_any p ml len c ls w3 hml hll.out (hL.out.below HB3.out (Nat.le_refl _)))
          have HS := Lib.hid (HRS.out w3 (hB.out.trans (HB3.out.mono hB.out.size)))
          go_upto_region 17 with (first
            | (go_at_call 30; refine HS.out.mono ?_; rintro e w30 ⟨⟨s30, two30, rfl, hs30⟩, hw30⟩; clear hs30; subst hw30; try dsimp only)
            | (go_at_call 39; refine (HLA.out).mono ?_; rintro e w4 ⟨h4, hB4⟩; obtain rfl := h4.dec (b := false) HV; have HB4 := Lib.hid (HB3.out.trans (hB4.mono HB3.out.size)); clear h4 hB4; try dsimp only))
          clear HLA HS HV
          go_loopw [16, 17] (fun s16 s17 wq => s16 = .int .i64 70 ∧ s17 = .int .i64 0 ∧ Hid (Below wo.heap.size wo wq)) (fun _ _ _ => 0)
          case atStart => exact ⟨rfl, rfl, HB4⟩
          case round =>
            clear HB4
            obtain ⟨rfl, rfl, hBq⟩ := hrel
            by_cases hm0 : ml = 0
            · have d0 : decide ((0 : Int) < (ml : Int)) = false := decide_eq_false (by omega)
              have d1 : decide (0 < ml) = false := decide_eq_false (by omega)
              have HBX := Lib.hid (hB.out.trans (hBq.out.mono hB.out.size))
              have HBZ := Lib.hid (HB2.out.trans (HBX.out.mono hsz2))
              have HDC := Lib.hid (HDG.out _ HBX.out)
              have HFC := Lib.hid (HFI.out _ len D HBZ.out (by omega) hD16)
              go_wp2_with (first
                | (go_at_call 27; refine (HDC.out).mono ?_; rintro e w8 ⟨rfl, hw8⟩; subst hw8; try dsimp only)
                | (go_at_call 42; refine (HFC.out).mono ?_; rintro e w9 ⟨⟨p9, c9, ls9, rfl, hl9, -, hr9⟩, hB9⟩; have HL9 := Lib.hid hl9; have HR9 := Lib.hid hr9.lst; have HB9 := Lib.hid (HBX.out.trans (hB9.mono HBX.out.size)); clear hl9 hr9 hB9))
              exact ⟨⟨k + 1, p9, c9, len, ls9, by omega, by omega, int_eq (by omega), rfl, HR9, (fun i => Nat.le_trans (HL9.out i) (by decide)), HB9⟩, by simp [intOf]; omega⟩
            · have d0 : decide ((0 : Int) < (ml : Int)) = true := decide_eq_true (by omega)
              have d1 : decide (0 < ml) = true := decide_eq_true (by omega)
              have HBX := Lib.hid (hB.out.trans (hBq.out.mono hB.out.size))
              have HBZ := Lib.hid (HB2.out.trans (HBX.out.mono hsz2))
              have HDC := Lib.hid (HDG.out _ HBX.out)
              have HFC := Lib.hid (HFI.out _ len D HBZ.out (by omega) hD16)
              go_wp2_with (first
                | (go_at_call 27; refine (HDC.out).mono ?_; rintro e w8 ⟨rfl, hw8⟩; subst hw8; try dsimp only)
                | (go_at_call 42; refine (HFC.out).mono ?_; rintro e w9 ⟨⟨p9, c9, ls9, rfl, hl9, -, hr9⟩, hB9⟩; have HL9 := Lib.hid hl9; have HR9 := Lib.hid hr9.lst; have HB9 := Lib.hid (HBX.out.trans (hB9.mono HBX.out.size)); clear hl9 hr9 hB9))
              exact ⟨⟨k + 1, p9, c9, len, ls9, by omega, by omega, int_eq (by omega), rfl, HR9, (fun i => Nat.le_trans (HL9.out i) (by decide)), HB9⟩, by simp [intOf]; omega⟩
        · have HV : (true = true ↔ ListsP ls ml len) := ⟨fun _ => hp3, fun _ => rfl⟩
          have HS3 := Lib.hid hs3
          clear hg3 hs3
          have HLA := Lib.hid (lists_any p ml len c ls w3 hml hll.out (hL.out.below HB3.out (Nat.le_refl _)))
          have HS := Lib.hid (HRS.out w3 (hB.out.trans (HB3.out.mono hB.out.size)))
          go_upto_region 17 with (first
            | (go_at_call 30; refine HS.out.mono ?_; rintro e w30 ⟨⟨s30, two30, rfl, hs30⟩, hw30⟩; obtain ⟨rfl, rfl⟩ := SidesR.unique HU.out hs30 HS3.out; clear hs30; subst hw30; try dsimp only)
            | (go_at_call 39; refine (HLA.out).mono ?_; rintro e w4 ⟨h4, hB4⟩; obtain rfl := h4.dec (b := true) HV; have HB4 := Lib.hid (HB3.out.trans (hB4.mono HB3.out.size)); clear h4 hB4; try dsimp only))
          clear HLA HS HV hp3
          go_loopw [16, 17] (fun s16 s17 wq => s16 = .int .i64 4 ∧ s17 = .int .i64 0 ∧ Hid (Below wo.heap.size wo wq)) (fun _ _ _ => 0)
          case atStart => exact ⟨rfl, rfl, HB4⟩
          case round =>
            clear HB4
            obtain ⟨rfl, rfl, hBq⟩ := hrel
            by_cases hm0 : ml = 0
            · have d0 : decide ((0 : Int) < (ml : Int)) = false := decide_eq_false (by omega)
              have d1 : decide (0 < ml) = false := decide_eq_false (by omega)
              have HBX := Lib.hid (hB.out.trans (hBq.out.mono hB.out.size))
              have HBZ := Lib.hid (HB2.out.trans (HBX.out.mono hsz2))
              have HDC := Lib.hid (HDG.out _ HBX.out)
              have HFC := Lib.hid (HFI.out _ len D HBZ.out (by omega) hD16)
              go_wp2_with (first
                | (go_at_call 27; refine (HDC.out).mono ?_; rintro e w8 ⟨rfl, hw8⟩; subst hw8; try dsimp only)
                | (go_at_call 42; refine (HFC.out).mono ?_; rintro e w9 ⟨⟨p9, c9, ls9, rfl, hl9, -, hr9⟩, hB9⟩; have HL9 := Lib.hid hl9; have HR9 := Lib.hid hr9.lst; have HB9 := Lib.hid (HBX.out.trans (hB9.mono HBX.out.size)); clear hl9 hr9 hB9))
              exact ⟨⟨k + 1, p9, c9, len, ls9, by omega, by omega, int_eq (by omega), rfl, HR9, (fun i => Nat.le_trans (HL9.out i) (by decide)), HB9⟩, by simp [intOf]; omega⟩
            · have d0 : decide ((0 : Int) < (ml : Int)) = true := decide_eq_true (by omega)
              have d1 : decide (0 < ml) = true := decide_eq_true (by omega)
              have HBX := Lib.hid (hB.out.trans (hBq.out.mono hB.out.size))
              have HBZ := Lib.hid (HB2.out.trans (HBX.out.mono hsz2))
              have HDC := Lib.hid (HDG.out _ HBX.out)
              have HFC := Lib.hid (HFI.out _ len D HBZ.out (by omega) hD16)
              go_wp2_with (first
                | (go_at_call 27; refine (HDC.out).mono ?_; rintro e w8 ⟨rfl, hw8⟩; subst hw8; try dsimp only)
                | (go_at_call 42; refine (HFC.out).mono ?_; rintro e w9 ⟨⟨p9, c9, ls9, rfl, hl9, -, hr9⟩, hB9⟩; have HL9 := Lib.hid hl9; have HR9 := Lib.hid hr9.lst; have HB9 := Lib.hid (HBX.out.trans (hB9.mono HBX.out.size)); clear hl9 hr9 hB9))
              exact ⟨⟨k + 1, p9, c9, len, ls9, by omega, by omega, int_eq (by omega), rfl, HR9, (fun i => Nat.le_trans (HL9.out i) (by decide)), HB9⟩, by simp [intOf]; omega⟩
        · have HV : (true = true ↔ ListsP ls ml len) := ⟨fun _ => hp3, fun _ => rfl⟩
          have HS3 := Lib.hid hs3
          have HX3 := Lib.hid hx3
          clear hg3 hs3 hx3
          have HLA := Lib.hid (lists_any p ml len c ls w3 hml hll.out (hL.out.below HB3.out (Nat.le_refl _)))
          have HS := Lib.hid (HRS.out w3 (hB.out.trans (HB3.out.mono hB.out.size)))
          go_upto_region 17 with (first
            | (go_at_call 30; refine HS.out.mono ?_; rintro e w30 ⟨⟨s30, two30, rfl, hs30⟩, hw30⟩; obtain ⟨rfl, rfl⟩ := SidesR.unique HU.out hs30 HS3.out; clear hs30; subst hw30; try dsimp only)
            | (go_at_call 39; refine (HLA.out).mono ?_; rintro e w4 ⟨h4, hB4⟩; obtain rfl := h4.dec (b := true) HV; have HB4 := Lib.hid (HB3.out.trans (hB4.mono HB3.out.size)); clear h4 hB4; try dsimp only))
          clear HLA HS HV hp3
          go_loopw [16, 17] (fun s16 s17 wq => ∃ (i : Nat) (wv : Int), s16 = .int .i64 wv ∧ s17 = .int .i64 (i : Int) ∧ Hid ((wv = 0 ∧ i ≤ ml ∧ ∀ j, j < i → D ≤ (ls j).length) ∨ (wv = 1 ∧ i ≤ ml)) ∧ Hid (Below wo.heap.size wo wq)) (fun _ s17 _ => ml + 1 - (intOf s17).toNat)
          case atStart => exact ⟨0, 0, rfl, rfl, .inl ⟨rfl, by omega, fun j hj => by omega⟩, HB4⟩
          case round =>
            clear HB4
            obtain ⟨i, wv, rfl, rfl, hst, hBq⟩ := hrel
            by_cases hwv : wv = 0
            · subst hwv
              have hst2 : i ≤ ml ∧ ∀ j, j < i → D ≤ (ls j).length := by
                rcases hst.out with ⟨_, h⟩ | ⟨h, _⟩
                · exact h
                · cases h
              have hil := hst2.1
              have HDJ := Lib.hid hst2.2
              clear hst2 hst
              have hiL : i < ml := Classical.byContradiction fun hn => by
                obtain ⟨j, hj, hlt⟩ := HX3.out
                have := HDJ.out j (by omega)
                omega
              obtain ⟨lb, lo, el, hlb, hlc⟩ := (hL.out.below hBq.out (Nat.le_refl _)) (by omega)
              obtain ⟨lp, lc2, k2, -⟩ := hlc i hiL
              have r0 : ∀ d : BW wr.heap.size wr, d.w.cell? ⟨lb, lo + i, none⟩ = some (.slice lp (ls i).length lc2) := fun d => d.cell hlb k2
              have HC : Hid (∀ d : BW wr.heap.size wr, Calls Tryd.prog 27 #[.slice (some ⟨b2, 0, none⟩) m m] d.w fun e w' => e = .returned (.int .i64 (D : Nat)) ∧ ∃ d' : BW wr.heap.size wr, w' = d'.w) := fun d => (HDG.out d.w ((hB.out.trans (hBq.out.mono hB.out.size)).trans (d.b.mono (Nat.le_trans hB.out.size hBq.out.size)))).mono fun e w' ⟨h1, h2⟩ => ⟨h1, d, h2⟩
              have hli := hll.out i
              obtain ⟨z, hz⟩ : ∃ z, Hid (z = (ls i).length) := ⟨_, rfl⟩
              rw [← hz.out] at r0 hli
              have g3 : (i : Int) < (ml : Int) := by omega
              have d3 : decide ((i : Int) < (ml : Int)) = true := decide_eq_true g3
              have d4 : decide (i < ml) = true := decide_eq_true hiL
              subst el
              clear hlc k2
              by_cases hlt : z < D
              · have g4 : (z : Int) < (D : Int) := by omega
                have d5 : decide (z < D) = true := decide_eq_true hlt
                go_upto_region 19 with (fail)
                refine wp_region_bw (by kernel_rfl) (by kernel_rfl) ?_
                repeat (go_big_quiet_step ((first
                  | rfl
                  | (go_at_call 27; exact HC.out _))))
                refine wpQuiet_nil ?_
                rintro _ ⟨d, rfl⟩
                have HBD := Lib.hid (hBq.out.trans (d.b.mono hBq.out.size))
                clear r0 HC
                generalize d.w = Z at *
                go_wp2
                exact ⟨⟨i + 1, 1, rfl, int_eq (by omega), .inr ⟨rfl, by omega⟩, HBD⟩, by simp [intOf]; omega⟩
              · have g4 : ¬ (z : Int) < (D : Int) := by omega
                have d5 : decide (z < D) = false := decide_eq_false hlt
                have HNN : Hid (((0 : Int) = 0 ∧ i + 1 ≤ ml ∧ ∀ j, j < i + 1 → D ≤ (ls j).length) ∨ ((0 : Int) = 1 ∧ i + 1 ≤ ml)) := .inl ⟨rfl, by omega, fun j hj => by
                  by_cases e : j = i
                  · subst e; rw [← hz.out]; omega
                  · exact HDJ.out j (by omega)⟩
                go_upto_region 19 with (fail)
                refine wp_region_bw (by kernel_rfl) (by kernel_rfl) ?_
                repeat (go_big_quiet_step ((first
                  | rfl
                  | (go_at_call 27; exact HC.out _))))
                refine wpQuiet_nil ?_
                rintro _ ⟨d, rfl⟩
                have HBD := Lib.hid (hBq.out.trans (d.b.mono hBq.out.size))
                clear r0 HC
                generalize d.w = Z at *
                go_wp2
                exact ⟨⟨i + 1, 0, rfl, int_eq (by omega), HNN, HBD⟩, by simp [intOf]; omega⟩
            · obtain rfl : wv = 1 := by
                rcases hst.out with ⟨h, _⟩ | ⟨h, _⟩
                · exact absurd h hwv
                · exact h
              clear hst hwv
              by_cases hiL : i < ml
              · have d3 : decide ((i : Int) < (ml : Int)) = true := decide_eq_true (by omega)
                have d4 : decide (i < ml) = true := decide_eq_true hiL
                have HBX := Lib.hid (hB.out.trans (hBq.out.mono hB.out.size))
                have HBZ := Lib.hid (HB2.out.trans (HBX.out.mono hsz2))
                have HDC := Lib.hid (HDG.out _ HBX.out)
                have HFC := Lib.hid (HFI.out _ len D HBZ.out (by omega) hD16)
                go_wp2_with (first
                  | (go_at_call 27; refine (HDC.out).mono ?_; rintro e w8 ⟨rfl, hw8⟩; subst hw8; try dsimp only)
                  | (go_at_call 42; refine (HFC.out).mono ?_; rintro e w9 ⟨⟨p9, c9, ls9, rfl, hl9, -, hr9⟩, hB9⟩; have HL9 := Lib.hid hl9; have HR9 := Lib.hid hr9.lst; have HB9 := Lib.hid (HBX.out.trans (hB9.mono HBX.out.size)); clear hl9 hr9 hB9))
                exact ⟨⟨k + 1, p9, c9, len, ls9, by omega, by omega, int_eq (by omega), rfl, HR9, (fun i => Nat.le_trans (HL9.out i) (by decide)), HB9⟩, by simp [intOf]; omega⟩
              · have d3 : decide ((i : Int) < (ml : Int)) = false := decide_eq_false (by omega)
                have d4 : decide (i < ml) = false := decide_eq_false hiL
                have HBX := Lib.hid (hB.out.trans (hBq.out.mono hB.out.size))
                have HBZ := Lib.hid (HB2.out.trans (HBX.out.mono hsz2))
                have HDC := Lib.hid (HDG.out _ HBX.out)
                have HFC := Lib.hid (HFI.out _ len D HBZ.out (by omega) hD16)
                go_wp2_with (first
                  | (go_at_call 27; refine (HDC.out).mono ?_; rintro e w8 ⟨rfl, hw8⟩; subst hw8; try dsimp only)
                  | (go_at_call 42; refine (HFC.out).mono ?_; rintro e w9 ⟨⟨p9, c9, ls9, rfl, hl9, -, hr9⟩, hB9⟩; have HL9 := Lib.hid hl9; have HR9 := Lib.hid hr9.lst; have HB9 := Lib.hid (HBX.out.trans (hB9.mono HBX.out.size)); clear hl9 hr9 hB9))
                exact ⟨⟨k + 1, p9, c9, len, ls9, by omega, by omega, int_eq (by omega), rfl, HR9, (fun i => Nat.le_trans (HL9.out i) (by decide)), HB9⟩, by simp [intOf]; omega⟩
        · have HV : (true = true ↔ ListsP ls ml len) := ⟨fun _ => hp3, fun _ => rfl⟩
          have HS3 := Lib.hid hs3
          have HX3 := Lib.hid hx3
          have HSR := Lib.hid hS3
          have HPP := Lib.hid hP3
          have HFF : Hid (FromI (fun i => (f3 i : Int)) len ml ls) := ⟨hp3.2.symm, fun i hi => hF3 i (by rw [hp3.2]; exact hi)⟩
          clear hg3 hs3 hx3 hS3 hP3 hF3
          have HLA := Lib.hid (lists_any p ml len c ls w3 hml hll.out (hL.out.below HB3.out (Nat.le_refl _)))
          have HS := Lib.hid (HRS.out w3 (hB.out.trans (HB3.out.mono hB.out.size)))
          go_upto_region 17 with (first
            | (go_at_call 30; refine HS.out.mono ?_; rintro e w30 ⟨⟨s30, two30, rfl, hs30⟩, hw30⟩; obtain ⟨rfl, rfl⟩ := SidesR.unique HU.out hs30 HS3.out; clear hs30; subst hw30; try dsimp only)
            | (go_at_call 39; refine (HLA.out).mono ?_; rintro e w4 ⟨h4, hB4⟩; obtain rfl := h4.dec (b := true) HV; have HB4 := Lib.hid (HB3.out.trans (hB4.mono HB3.out.size)); have HB43 := Lib.hid hB4; clear h4 hB4; try dsimp only))
          clear HLA HS HV hp3
          go_loopw [16, 17] (fun s16 s17 wq => ∃ i : Nat, s16 = .int .i64 0 ∧ s17 = .int .i64 (i : Int) ∧ i ≤ ml ∧ Hid (Below w30.heap.size w30 wq)) (fun _ s17 _ => ml + 1 - (intOf s17).toNat)
          case atStart => exact ⟨0, rfl, rfl, by omega, HB43⟩
          case round =>
            clear HB4 HB43
            obtain ⟨i, rfl, rfl, hil, hBq3⟩ := hrel
            have hBq := Lib.hid (HB3.out.trans (hBq3.out.mono HB3.out.size))
            by_cases hiL : i < ml
            · skip
              obtain ⟨lb, lo, el, hlb, hlc⟩ := (hL.out.below hBq.out (Nat.le_refl _)) (by omega)
              obtain ⟨lp, lc2, k2, -⟩ := hlc i hiL
              have r0 : ∀ d : BW wr.heap.size wr, d.w.cell? ⟨lb, lo + i, none⟩ = some (.slice lp (ls i).length lc2) := fun d => d.cell hlb k2
              have HC : Hid (∀ d : BW wr.heap.size wr, Calls Tryd.prog 27 #[.slice (some ⟨b2, 0, none⟩) m m] d.w fun e w' => e = .returned (.int .i64 (D : Nat)) ∧ ∃ d' : BW wr.heap.size wr, w' = d'.w) := fun d => (HDG.out d.w ((hB.out.trans (hBq.out.mono hB.out.size)).trans (d.b.mono (Nat.le_trans hB.out.size hBq.out.size)))).mono fun e w' ⟨h1, h2⟩ => ⟨h1, d, h2⟩
              have hli := hll.out i
              obtain ⟨z, hz⟩ : ∃ z, Hid (z = (ls i).length) := ⟨_, rfl⟩
              rw [← hz.out] at r0 hli
              have g3 : (i : Int) < (ml : Int) := by omega
              have d3 : decide ((i : Int) < (ml : Int)) = true := decide_eq_true g3
              have d4 : decide (i < ml) = true := decide_eq_true hiL
              subst el
              clear hlc k2
              have hlt : ¬ z < D := by have := HX3.out i hiL; have := hz.out; omega
              have g4 : ¬ (z : Int) < (D : Int) := by omega
              have d5 : decide (z < D) = false := decide_eq_false hlt
              go_upto_region 19 with (fail)
              refine wp_region_bw (by kernel_rfl) (by kernel_rfl) ?_
              repeat (go_big_quiet_step ((first
                | rfl
                | (go_at_call 27; exact HC.out _))))
              refine wpQuiet_nil ?_
              rintro _ ⟨d, rfl⟩
              have HBD := Lib.hid (hBq3.out.trans (d.b.mono hBq3.out.size))
              clear r0 HC
              generalize d.w = Z at *
              go_wp2
              exact ⟨⟨i + 1, rfl, int_eq (by omega), by omega, HBD⟩, by simp [intOf]; omega⟩
            · have d3 : decide ((i : Int) < (ml : Int)) = false := decide_eq_false (by omega)
              have d4 : decide (i < ml) = false := decide_eq_false hiL
              have HFR := Lib.hid (from_any p3 p len len ml c _ ls wr (by omega) hll.out (HSR.out.below hBq3.out (Nat.le_refl _)) (hL.out.below hBq.out (Nat.le_refl _)))
              have HPRW : Hid (∀ W, Below wr.heap.size wr W → Calls Tryd.prog 18 #[.slice a1 len c1, .slice p3 len len] W fun e w' => e = .returned (.bool true) ∧ Below W.heap.size W w') := fun W hW => HPR.out W p3 len _ (HG2.out.hg.below (hB.out.trans (hBq.out.trans (hW.mono hBq.out.size) |>.mono hB.out.size)) (Nat.le_refl _)) (HSR.out.below (hBq3.out.trans (hW.mono hBq3.out.size)) (Nat.le_refl _)) HPP.out
              go_upto_region 26 with (first
                | (go_at_call 41; refine HFR.out.mono ?_; rintro e w5 ⟨h5, hB5⟩; obtain rfl := h5.dec (b := true) ⟨fun _ => HFF.out, fun _ => rfl⟩; have HB5 := Lib.hid hB5; clear h5 hB5; try dsimp only)
                | (go_at_call 18; refine (HPRW.out _ HB5.out).mono ?_; rintro e w6 ⟨rfl, hB6⟩; have HB6 := Lib.hid (hBq.out.trans ((HB5.out.trans (hB6.mono HB5.out.size)).mono hBq.out.size)); clear hB6; try dsimp only))
              have HBX := Lib.hid (hB.out.trans (HB6.out.mono hB.out.size))
              have HBZ := Lib.hid (HB2.out.trans (HBX.out.mono hsz2))
              have HDC := Lib.hid (HDG.out _ HBX.out)
              have HFC := Lib.hid (HFI.out _ len D HBZ.out (by omega) hD16)
              go_wp2_with (first
                | (go_at_call 27; refine (HDC.out).mono ?_; rintro e w8 ⟨rfl, hw8⟩; subst hw8; try dsimp only)
                | (go_at_call 42; refine (HFC.out).mono ?_; rintro e w9 ⟨⟨p9, c9, ls9, rfl, hl9, -, hr9⟩, hB9⟩; have HL9 := Lib.hid hl9; have HR9 := Lib.hid hr9.lst; have HB9 := Lib.hid (HBX.out.trans (hB9.mono HBX.out.size)); clear hl9 hr9 hB9))
              exact ⟨⟨k + 1, p9, c9, len, ls9, by omega, by omega, int_eq (by omega), rfl, HR9, (fun i => Nat.le_trans (HL9.out i) (by decide)), HB9⟩, by simp [intOf]; omega⟩
      · have g1 : ¬ (k : Int) < 2 := by omega
        have HAW : Hid (∀ W, Below wr.heap.size wr W → Calls Tryd.prog 16 #[] W fun e w' => e = .returned (.bool true) ∧ Below W.heap.size W w') := fun W hW => awake_any W (HT.out.below (HBW.out.trans (hW.mono HBW.out.size)) (Nat.le_refl _))
        clear hL HGL HFI
        go_wp2_with (go_at_call 16; refine (HAW.out _ (Below.refl _ _)).mono ?_; rintro e w6 ⟨rfl, hB6⟩; have HB6 := Lib.hid hB6; clear hB6)
        go_ret
        exact ⟨rfl, HBW.out.trans (HB6.out.mono HBW.out.size)⟩
end Go.Proofs.YtpknnjcbcndbbaaDoor
