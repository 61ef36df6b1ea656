/- HueColours: the walk of the law. HueLoose in plain text: a greedy choice along the order never fails; the core of k is empty just if k is beyond the looseness. HueLoose in plain text: the core of k is empty just if k is beyond the looseness. -/
import Derived.Test.YtpknnjcbcndbbaaDoorG1002
import Derived.Test.YtpknnjcbcndbbaaDoorG1001
import Derived.Test.YtpknnjcbcndbbaaDoorA12
import Derived.Test.YtpknnjcbcndbbaaDoorOd
set_option linter.unusedVariables false
set_option linter.unusedSimpArgs false
namespace Go.Proofs.YtpknnjcbcndbbaaDoor
open Go.RowKit Go.Shelf

set_option maxRecDepth 100000 in
set_option maxHeartbeats 1000000 in
theorem Chromatic_long (n : Nat) (a : Option Addr) (cap : Nat) (ps : List (Int × Int)) (w : World) (hG : Good n ps a w) (hn : 10 < n) :
    Calls Tryd.prog 46 #[.int .i64 (n : Int), .slice a ps.length cap] w fun e w' => e = .returned (.tuple #[.int .i64 0, .slice none 0 0, .int .i64 2]) ∧ Below w.heap.size w w' := by
  have HO := Lib.hid (gopen_ok n a cap ps w hG.hl hG.hg hG.n1 hG.n2 hG.ok)
  have hnn : 10 < (n : Int) := by omega
  clear hG
  go_enter Tryd.func46, Tryd.ntmps46
  go_wp2_with (first
    | (go_at_call 52; refine HO.out.mono ?_; rintro e w1 ⟨B, rfl, hBl, hg1, hb1⟩; have HB1 := Lib.hid hb1; clear hBl hg1 hb1))
  refine bodyPost_ret (v := .tuple #[.int .i64 0, .slice none 0 0, .int .i64 2]) (by simp [results, Tryd.f46, go_sem]) rfl ?_
  exact ⟨rfl, HB1.out⟩
theorem famC_T {g : List Nat} {n : Nat} {ls : Nat → List Int} {m : Nat} (hm : m = n) {f : Nat → Nat} : FamC g n (natT ls m) f ↔ FamC g n (natL ls) f := by
  have e : ∀ i, i < n → natT ls m i = natL ls i := fun i hi => by unfold natT; rw [if_pos (by omega)]
  exact ⟨fun h => ⟨fun i hi => by rw [← e i hi]; exact h.1 i hi, h.2⟩, fun h => ⟨fun i hi => by rw [e i hi]; exact h.1 i hi, h.2⟩⟩
theorem colourable_of {a la : Option Addr} {cap lc m n : Nat} {g : List Nat} {ls : Nat → List Int} (hl : g.length = n) (hn : n ≤ 16) (U : Und g n) (hsm : ∀ i : Nat, Sm (g[i]?.getD 0)) (hP : ListsP ls m n) (w : World) (hE : Sets w a g) (hL : LstI w la m ls) :
    Calls Tryd.prog 44 #[.slice a n cap, .slice la m lc] w fun e w' => BoolP (∃ f, FamC g n (natL ls) f) e ∧ Below w.heap.size w w' := by
  have hml := hP.2
  have hA := hL.at hP.1
  have hN := natT_len hP.1
  rw [hml] at hA hN ⊢
  have h := rcolourable_any (lc := lc) (cap := cap) hl hn U hsm hN w hE hA
  exact h.mono fun e w' ⟨⟨b, h1, h2⟩, h3⟩ => ⟨⟨b, h1, h2.trans ⟨fun ⟨f, hf⟩ => ⟨f, (famC_T rfl).1 hf⟩, fun ⟨f, hf⟩ => ⟨f, (famC_T rfl).2 hf⟩⟩⟩, h3⟩
theorem fromC_true {p la : Option Addr} {c m lc n : Nat} {g : List Nat} {ls : Nat → List Int} {f : Nat → Nat} (hn : n ≤ 16) (hll : ∀ i, (ls i).length ≤ 1000) (hP : ListsP ls m n) (F : FamC g n (natL ls) f) (w : World) (h : SrcI w p n (fun j => (f j : Int))) (hL : LstI w la m ls) :
    Calls Tryd.prog 41 #[.slice p n c, .slice la m lc] w fun e w' => e = .returned (.bool true) ∧ Below w.heap.size w w' :=
  (from_any p la n c m lc _ ls w (by omega) hll h hL).mono fun e w' ⟨h1, h2⟩ => ⟨h1.dec ⟨fun _ => ⟨hP.2.symm, fun i hi => (mem_natL (hP.1 i (by rw [hP.2]; exact hi))).1 (F.1 i hi)⟩, fun _ => rfl⟩, h2⟩
theorem famC_prop {g : List Nat} {n : Nat} {ls : Nat → List Nat} {f : Nat → Nat} (U : Und g n) (F : FamC g n ls f) : PropC g n (fun j => (f j : Int)) :=
  ⟨fun i _ => by show (0 : Int) ≤ ((f i : Nat) : Int); omega, fun i k hi hk ha h => F.2 i k hi hk (U.ne _ _ ha) ha (by have h3 : ((f i : Nat) : Int) = ((f k : Nat) : Int) := h; omega)⟩
theorem colOK_prop {g : List Nat} {n : Nat} {L : Nat → Nat} {f : Nat → Nat} (C : ColOK g n L f) : PropC g n (fun j => (f j : Int)) :=
  ⟨fun i _ => by show (0 : Int) ≤ ((f i : Nat) : Int); omega, fun i k _ _ ha h => C.2 i k ha (by have h3 : ((f i : Nat) : Int) = ((f k : Nat) : Int) := h; omega)⟩
set_option maxRecDepth 100000 in
set_option maxHeartbeats 4000000 in
theorem law9 (n : Int) (a : Option Addr) (cap : Nat) (ps : List (Int × Int)) (a2 : Option Addr) (cap2 : Nat) (xs : List (List Int)) (w : World) (h : PairsIn w a cap ps) (h2 : ListsIn w a2 cap2 xs) (hT : Tab w) :
    Calls Tryd.prog 9 #[.int .i64 n, .slice a ps.length cap, .slice a2 xs.length cap2] w fun e w' => e = .returned (.bool true) ∧ Below w.heap.size w w' := by
  have HTM := Lib.hid (tame_any n a cap ps 12 w h (by decide) (by decide))
  have HT := Lib.hid hT
  have HLI : Hid (∀ W, Below w.heap.size w W → Calls Tryd.prog 37 #[.slice a2 xs.length cap2] W fun e w' => (∃ p c m ls, e = .returned (.slice p m c) ∧ m ≤ 125 ∧ (∀ i, (ls i).length ≤ 70) ∧ LRow w' W.heap.size (.slice p m c) m ls) ∧ Below W.heap.size W w') := fun W hW => lists_copy a2 cap2 xs W (h2.below hW (Nat.le_refl _))
  have HFI : Hid (∀ W (m : Nat), Below w.heap.size w W → m ≤ 1099511627776 → Calls Tryd.prog 42 #[.slice a2 xs.length cap2, .int .i64 (m : Int), .int .i64 1] W fun e w' => (∃ p c ls, e = .returned (.slice p m c) ∧ (∀ i, (ls i).length ≤ 64) ∧ (∀ i, i < m → Rise (ls i) ∧ 1 ≤ (ls i).length) ∧ LRow w' W.heap.size (.slice p m c) m ls) ∧ Below W.heap.size W w') := fun W m hW hm => by
    rw [show (1 : Int) = ((1 : Nat) : Int) from rfl]
    exact filled_any a2 cap2 m 1 xs W (h2.below hW (Nat.le_refl _)) hm (by decide)
  clear h h2 hT
  go_enter Tryd.func9, Tryd.ntmps9
  go_upto_region 2 with (go_at_call 14; refine (HTM.out).mono ?_; rintro e w1 ⟨m, qs, a1, c1, rfl, hm, hG1, hB1⟩; have HG1 := Lib.hid hG1; have HB1 := Lib.hid hB1; clear hG1 hB1)
  have hm1 := HG1.out.n1
  have hm16 := HG1.out.n2
  have HSM := Lib.hid (ofE_sm HG1.out.n2 HG1.out.ok)
  have HLN := Lib.hid (ofE_length m qs)
  have HU := Lib.hid (und_ofE HG1.out.ok)
  have HOF := Lib.hid (of_any m a1 c1 qs w1 HG1.out)
  have HCO := Lib.hid (fun la ml lc ls W hT hG => Colours_ok m a1 la c1 ml lc qs ls W hT hG)
  have HCH := Lib.hid (fun W hT hG => Chromatic_ok m a1 c1 qs W hT hG)
  obtain ⟨g, hg⟩ : ∃ g, Hid (g = ofE m qs) := ⟨_, rfl⟩
  rw [← hg.out] at HSM HLN HU HCO HCH HOF
  go_upto_region 3 with (go_at_call 21; refine (HOF.out).mono ?_; rintro e w2 ⟨b2, rfl, hb2, hS2, hB2⟩; have HS2 := Lib.hid hS2; have HG2 := Lib.hid (HG1.out.below hB2); have HB2 := Lib.hid (HB1.out.trans (hB2.mono HB1.out.size)); clear hS2 hB2 hb2)
  have HL := Lib.hid (HLI.out w2 HB2.out)
  clear HLI HTM HOF
  go_upto_region 4 with (go_at_call 37; refine (HL.out).mono ?_; rintro e w3 ⟨⟨p3, c3, m3, ls3, rfl, hm3, hl3, hr3⟩, hB3⟩; have HL3 := Lib.hid hl3; have HR3 := Lib.hid hr3.lst; have HB3 := Lib.hid hB3; clear hB3 hl3 hr3)
  clear HL HG1
  have hsz2 := HB2.out.size
  go_upto_region 5 with (fail)
  go_loopw [9, 10] (fun s9 s10 wr => ∃ (k : Nat) (p : Option Addr) (c ml : Nat) (ls : Nat → List Int), k ≤ 2 ∧ ml ≤ 1099511627776 ∧ s10 = .int .i64 (k : Int) ∧ s9 = .slice p ml c ∧ Hid (LstI wr p ml ls) ∧ Hid (∀ i, (ls i).length ≤ 1000) ∧ Hid (Below w2.heap.size w2 wr)) (fun _ s10 _ => 4 - (intOf s10).toNat)
  case atStart => exact ⟨0, p3, c3, m3, ls3, by omega, by omega, rfl, rfl, HR3, (fun i => Nat.le_trans (HL3.out i) (by decide)), HB3⟩
  case round =>
    clear HR3 HL3 HB3
    obtain ⟨k, p, c, ml, ls, hk, hml, rfl, rfl, hL, hll, hB⟩ := hrel
    have HBW := Lib.hid (HB2.out.trans (hB.out.mono hsz2))
    have HGW := Lib.hid (HG2.out.below hB.out)
    have HSW := Lib.hid (HS2.out.keep hB.out (Nat.le_refl _))
    by_cases hk2 : k < 2
    · have g1 : (k : Int) < 2 := by omega
      have HC1 := Lib.hid (HCO.out p ml c ls wr (HT.out.below HBW.out (Nat.le_refl _)) HGW.out hml hll.out hL.out)
      clear HCO HCH
      go_upto_region 8 with (go_at_call 43; refine (HC1.out).mono ?_; rintro e w3 ⟨hf3, hB3⟩; have HB3 := Lib.hid hB3; clear hB3; rcases hf3 with ⟨rfl, hn3⟩ | ⟨rfl, hp3, h12⟩ | ⟨rfl, hp3, h12, hn3⟩ | ⟨p3, c3, f3, rfl, hp3, h12, hF3, hS3⟩)
      · have HV : (false = true ↔ ListsP ls ml m) := ⟨(fun h => by cases h), fun h => absurd h hn3⟩
        have HLA := Lib.hid (lists_any p ml m c ls w3 hml hll.out (hL.out.below HB3.out (Nat.le_refl _)))
        go_upto_region 21 with (go_at_call 39; refine (HLA.out).mono ?_; rintro e w4 ⟨h4, hB4⟩; obtain rfl := h4.dec (b := false) HV; have HB4 := Lib.hid (HB3.out.trans (hB4.mono HB3.out.size)); clear h4 hB4; try dsimp only)
        have HBX := Lib.hid (hB.out.trans (HB4.out.mono hB.out.size))
        have HBZ := Lib.hid (HB2.out.trans (HBX.out.mono hsz2))
        have HFC := Lib.hid (HFI.out _ m HBZ.out (by omega))
        clear HC1
        go_wp2_with (go_at_call 42; refine (HFC.out).mono ?_; rintro e w9 ⟨⟨p9, c9, ls9, rfl, hl9, -, hr9⟩, hB9⟩; have HL9 := Lib.hid hl9; have HR9 := Lib.hid hr9.lst; have HB9 := Lib.hid (HBX.out.trans (hB9.mono HBX.out.size)); clear hl9 hr9 hB9)
        exact ⟨⟨k + 1, p9, c9, m, ls9, by omega, by omega, int_eq (by omega), rfl, HR9, (fun i => Nat.le_trans (HL9.out i) (by decide)), HB9⟩, by simp [intOf]; omega⟩
      · have HV : (true = true ↔ ListsP ls ml m) := ⟨fun _ => hp3, fun _ => rfl⟩
        have g12 : (10 : Int) < (m : Int) := by omega
        have HLA := Lib.hid (lists_any p ml m c ls w3 hml hll.out (hL.out.below HB3.out (Nat.le_refl _)))
        go_upto_region 21 with (go_at_call 39; refine (HLA.out).mono ?_; rintro e w4 ⟨h4, hB4⟩; obtain rfl := h4.dec (b := true) HV; have HB4 := Lib.hid (HB3.out.trans (hB4.mono HB3.out.size)); clear h4 hB4; try dsimp only)
        clear g12
        have HBX := Lib.hid (hB.out.trans (HB4.out.mono hB.out.size))
        have HBZ := Lib.hid (HB2.out.trans (HBX.out.mono hsz2))
        have HFC := Lib.hid (HFI.out _ m HBZ.out (by omega))
        clear HC1
        go_wp2_with (go_at_call 42; refine (HFC.out).mono ?_; rintro e w9 ⟨⟨p9, c9, ls9, rfl, hl9, -, hr9⟩, hB9⟩; have HL9 := Lib.hid hl9; have HR9 := Lib.hid hr9.lst; have HB9 := Lib.hid (HBX.out.trans (hB9.mono HBX.out.size)); clear hl9 hr9 hB9)
        exact ⟨⟨k + 1, p9, c9, m, ls9, by omega, by omega, int_eq (by omega), rfl, HR9, (fun i => Nat.le_trans (HL9.out i) (by decide)), HB9⟩, by simp [intOf]; omega⟩
      · have HV : (true = true ↔ ListsP ls ml m) := ⟨fun _ => hp3, fun _ => rfl⟩
        have g12 : ¬ (10 : Int) < (m : Int) := by omega
        have HN3 := Lib.hid hn3
        have HP3 := Lib.hid hp3
        have HRL : Hid (∀ W, Calls Tryd.prog 45 #[.slice (some ⟨b2, 0, none⟩) m m, .slice none 0 0] W fun e w' => e = .returned (.tuple #[.int .i64 0, .bool false]) ∧ w' = W) := fun W => rcols_len m 0 _ none m 0 W hm16 (by decide) (by omega)
        have HSO : Hid (∀ W, Below wr.heap.size wr W → Calls Tryd.prog 44 #[.slice (some ⟨b2, 0, none⟩) m m, .slice p ml c] W fun e w' => BoolP (∃ f, FamC g m (natL ls) f) e ∧ Below W.heap.size W w') := fun W hW => colourable_of HLN.out hm16 HU.out HSM.out HP3.out W (HSW.out.keep hW (Nat.le_refl _)) (hL.out.below hW (Nat.le_refl _))
        have HLA := Lib.hid (lists_any p ml m c ls w3 hml hll.out (hL.out.below HB3.out (Nat.le_refl _)))
        clear hn3 hp3
        go_upto_region 21 with (first
          | (go_at_call 39; refine (HLA.out).mono ?_; rintro e w4 ⟨h4, hB4⟩; obtain rfl := h4.dec (b := true) HV; have HB4 := Lib.hid (HB3.out.trans (hB4.mono HB3.out.size)); clear h4 hB4; try dsimp only)
          | (go_at_call 44; refine (HSO.out _ HB4.out).mono ?_; rintro e w5 ⟨h5, hB5⟩; obtain rfl := h5.dec (b := false) ⟨(fun h => by cases h), fun h => absurd h HN3.out⟩; have HB5 := Lib.hid (HB4.out.trans (hB5.mono HB4.out.size)); clear h5 hB5; try dsimp only)
          | (go_at_call 45; refine (HRL.out _).mono ?_; rintro e w6 ⟨rfl, hw6⟩; subst hw6; try dsimp only))
        clear g12
        have HBX := Lib.hid (hB.out.trans (HB5.out.mono hB.out.size))
        have HBZ := Lib.hid (HB2.out.trans (HBX.out.mono hsz2))
        have HFC := Lib.hid (HFI.out _ m HBZ.out (by omega))
        clear HC1
        go_wp2_with (go_at_call 42; refine (HFC.out).mono ?_; rintro e w9 ⟨⟨p9, c9, ls9, rfl, hl9, -, hr9⟩, hB9⟩; have HL9 := Lib.hid hl9; have HR9 := Lib.hid hr9.lst; have HB9 := Lib.hid (HBX.out.trans (hB9.mono HBX.out.size)); clear hl9 hr9 hB9)
        exact ⟨⟨k + 1, p9, c9, m, ls9, by omega, by omega, int_eq (by omega), rfl, HR9, (fun i => Nat.le_trans (HL9.out i) (by decide)), HB9⟩, by simp [intOf]; omega⟩
      · have HV : (true = true ↔ ListsP ls ml m) := ⟨fun _ => hp3, fun _ => rfl⟩
        have g12 : ¬ (10 : Int) < (m : Int) := by omega
        have HF3 := Lib.hid hF3
        have HP3 := Lib.hid hp3
        have HFR : Hid (∀ W, Below wr.heap.size wr W → SrcI W p3 m (fun j => (f3 j : Int)) → Calls Tryd.prog 41 #[.slice p3 m c3, .slice p ml c] W fun e w' => e = .returned (.bool true) ∧ Below W.heap.size W w') := fun W hW hS => fromC_true hm16 hll.out HP3.out HF3.out W hS (hL.out.below hW (Nat.le_refl _))
        have HRC : Hid (∀ W, Below wr.heap.size wr W → SrcI W p3 m (fun j => (f3 j : Int)) → Calls Tryd.prog 45 #[.slice (some ⟨b2, 0, none⟩) m m, .slice p3 m c3] W fun e w' => (∃ q : Nat, e = .returned (.tuple #[.int .i64 (q : Int), .bool true])) ∧ Below W.heap.size W w') := fun W hW hS => rcols_any m _ p3 m c3 g _ W HLN.out hm16 HSM.out (HSW.out.keep hW (Nat.le_refl _)) hS (famC_prop HU.out HF3.out)
        have HS3 := Lib.hid hS3
        have HSO : Hid (∀ W, Below wr.heap.size wr W → Calls Tryd.prog 44 #[.slice (some ⟨b2, 0, none⟩) m m, .slice p ml c] W fun e w' => BoolP (∃ f, FamC g m (natL ls) f) e ∧ Below W.heap.size W w') := fun W hW => colourable_of HLN.out hm16 HU.out HSM.out HP3.out W (HSW.out.keep hW (Nat.le_refl _)) (hL.out.below hW (Nat.le_refl _))
        have HLA := Lib.hid (lists_any p ml m c ls w3 hml hll.out (hL.out.below HB3.out (Nat.le_refl _)))
        clear hF3 hp3 hS3
        go_upto_region 21 with (first
          | (go_at_call 39; refine (HLA.out).mono ?_; rintro e w4 ⟨h4, hB4⟩; obtain rfl := h4.dec (b := true) HV; have hB4' := hB4; have HB4 := Lib.hid (HB3.out.trans (hB4.mono HB3.out.size)); clear h4 hB4; try dsimp only; have HS4 := Lib.hid (HS3.out.below hB4' (Nat.le_refl _)); clear hB4')
          | (go_at_call 44; refine (HSO.out _ HB4.out).mono ?_; rintro e w5 ⟨h5, hB5⟩; obtain rfl := h5.dec (b := true) ⟨fun _ => ⟨f3, HF3.out⟩, fun _ => rfl⟩; have HS5 := Lib.hid (HS4.out.below hB5 (Nat.le_refl _)); have HB5 := Lib.hid (HB4.out.trans (hB5.mono HB4.out.size)); clear h5 hB5; try dsimp only)
          | (go_at_call 45; refine (HRC.out _ HB5.out HS5.out).mono ?_; rintro e w6 ⟨⟨q6, rfl⟩, hB6⟩; have HS6 := Lib.hid (HS5.out.below hB6 (Nat.le_refl _)); have HB6 := Lib.hid (HB5.out.trans (hB6.mono HB5.out.size)); clear hB6; try dsimp only)
          | (go_at_call 41; refine (HFR.out _ HB6.out HS6.out).mono ?_; rintro e w7 ⟨rfl, hB7⟩; have HB7 := Lib.hid (HB6.out.trans (hB7.mono HB6.out.size)); clear hB7; try dsimp only))
        clear g12
        have HBX := Lib.hid (hB.out.trans (HB7.out.mono hB.out.size))
        have HBZ := Lib.hid (HB2.out.trans (HBX.out.mono hsz2))
        have HFC := Lib.hid (HFI.out _ m HBZ.out (by omega))
        clear HC1
        go_wp2_with (go_at_call 42; refine (HFC.out).mono ?_; rintro e w9 ⟨⟨p9, c9, ls9, rfl, hl9, -, hr9⟩, hB9⟩; have HL9 := Lib.hid hl9; have HR9 := Lib.hid hr9.lst; have HB9 := Lib.hid (HBX.out.trans (hB9.mono HBX.out.size)); clear hl9 hr9 hB9)
        exact ⟨⟨k + 1, p9, c9, m, ls9, by omega, by omega, int_eq (by omega), rfl, HR9, (fun i => Nat.le_trans (HL9.out i) (by decide)), HB9⟩, by simp [intOf]; omega⟩
    · have g1 : ¬ (k : Int) < 2 := by omega
      have HAW : Hid (∀ W, Below wr.heap.size wr W → Calls Tryd.prog 16 #[] W fun e w' => e = .returned (.bool true) ∧ Below W.heap.size W w') := fun W hW => awake_any W (HT.out.below (HBW.out.trans (hW.mono HBW.out.size)) (Nat.le_refl _))
      clear hL HCO HFI
      by_cases h10 : 10 < m
      · have g2 : (10 : Int) < (m : Int) := by omega
        have HCL := Lib.hid (Chromatic_long m a1 c1 qs wr HGW.out h10)
        clear HCH
        go_wp2_with (first
          | (go_at_call 46; refine (HCL.out).mono ?_; rintro e w5 ⟨rfl, hB5⟩; have HB5 := Lib.hid hB5; clear hB5)
          | (go_at_call 16; refine (HAW.out _ HB5.out).mono ?_; rintro e w6 ⟨rfl, hB6⟩; have HB6 := Lib.hid (HB5.out.trans (hB6.mono HB5.out.size)); clear hB6))
        go_ret
        exact ⟨rfl, HBW.out.trans (HB6.out.mono HBW.out.size)⟩
      · have g2 : ¬ (10 : Int) < (m : Int) := by omega
        have HCL := Lib.hid (HCH.out wr (HT.out.below HBW.out (Nat.le_refl _)) HGW.out (by omega))
        clear HCH
        go_upto_region 23 with (go_at_call 46; refine (HCL.out).mono ?_; rintro e w5 ⟨⟨kc, ob, cc, rfl, hki, -, hr5, -, hok⟩, hB5⟩; have HB5 := Lib.hid hB5; have HKI := Lib.hid hki; have HR5 := Lib.hid hr5; have HOK := Lib.hid hok; clear hB5 hki hr5 hok)
        have HSC : Hid (SrcI w5 (some ⟨ob, 0, none⟩) m (fun j => (cc j : Int))) := fun _ => ⟨ob, 0, rfl, HR5.out.lt, fun j hj => by rw [Nat.zero_add]; exact HR5.out.cell hj⟩
        have HRC : Hid (∀ W, Below w5.heap.size w5 W → Calls Tryd.prog 45 #[.slice (some ⟨b2, 0, none⟩) m m, .slice (some ⟨ob, 0, none⟩) m m] W fun e w' => (∃ q : Nat, e = .returned (.tuple #[.int .i64 (q : Int), .bool true])) ∧ Below W.heap.size W w') := fun W hW => rcols_any m _ _ m m g _ W HLN.out hm16 HSM.out (HSW.out.keep (HB5.out.trans (hW.mono HB5.out.size)) (Nat.le_refl _)) (HSC.out.below hW (Nat.le_refl _)) (colOK_prop HOK.out)
        have HRM : Hid (∀ W, Below w5.heap.size w5 W → Calls Tryd.prog 47 #[.slice (some ⟨b2, 0, none⟩) m m] W fun e w' => e = .returned (.int .i64 (kc : Int)) ∧ Below W.heap.size W w') := fun W hW => (rchromatic_any m _ m g W HLN.out hm1 hm16 HU.out HSM.out (HSW.out.keep (HB5.out.trans (hW.mono HB5.out.size)) (Nat.le_refl _))).mono fun e w' ⟨⟨j, h1, h2⟩, h3⟩ => ⟨by rw [h1, h2.unique HKI.out], h3⟩
        have HBL : Hid (∀ W, Below w5.heap.size w5 W → Calls Tryd.prog 19 #[.slice (some ⟨ob, 0, none⟩) m m, .int .i64 (kc : Int)] W fun e w' => e = .returned (.bool true) ∧ w' = W) := fun W hW => below_true _ m m _ _ W (by omega) (HSC.out.below hW (Nat.le_refl _)) fun j hj => by
          have := HOK.out.1 j hj
          rw [low_bit] at this
          have h3 : cc j < kc := by simpa using this
          show ((cc j : Nat) : Int) < (kc : Int)
          omega
        have hee : ((kc : Int) == (kc : Int)) = true := by simp
        go_wp2_with (first
          | (go_at_call 45; refine (HRC.out _ (Below.refl _ _)).mono ?_; rintro e w6 ⟨⟨q6, rfl⟩, hB6⟩; have HB6 := Lib.hid hB6; clear hB6)
          | (go_at_call 47; refine (HRM.out _ HB6.out).mono ?_; rintro e w7 ⟨rfl, hB7⟩; have HB7 := Lib.hid (HB6.out.trans (hB7.mono HB6.out.size)); clear hB7)
          | (go_at_call 19; refine (HBL.out _ HB7.out).mono ?_; rintro e w8 ⟨rfl, hw8⟩; subst hw8; try dsimp only)
          | (go_at_call 16; refine (HAW.out _ (HB5.out.trans (HB7.out.mono HB5.out.size))).mono ?_; rintro e w9 ⟨rfl, hB9⟩; have HB9 := Lib.hid ((HB5.out.trans (HB7.out.mono HB5.out.size)).trans (hB9.mono (Nat.le_trans HB5.out.size HB7.out.size))); clear hB9))
        go_ret
        exact ⟨rfl, HBW.out.trans (HB9.out.mono HBW.out.size)⟩
end Go.Proofs.YtpknnjcbcndbbaaDoor
namespace Go.Proofs.YtpknnjcbcndbbaaDoor
open Go.RowKit

theorem bl_size (s : Nat) : ∀ k, (bl s k).length = szTo s k
  | 0 => by simp [bl, szTo]
  | k + 1 => by
    rw [bl_succ, List.length_append, bl_size s k, szTo, tb]
    cases s.testBit k <;> simp
theorem cnt_size (s : Nat) : cnt s = size s := bl_size s 64
theorem szTo_sub {s t : Nat} (h : ∀ x, s.testBit x = true → t.testBit x = true) : ∀ k, szTo s k ≤ szTo t k
  | 0 => Nat.le_refl _
  | k + 1 => by
    have ih := szTo_sub h k
    have : tb s k ≤ tb t k := by
      unfold tb
      cases hs : s.testBit k with
      | false => simp
      | true => rw [h k hs]; exact Nat.le_refl _
    simp only [szTo]; omega
theorem wtn_sub {g : List Nat} {v s t : Nat} (h : ∀ x, s.testBit x = true → t.testBit x = true) : wtn g v s ≤ wtn g v t :=
  szTo_sub (fun x hx => by
    rw [Nat.testBit_and, Bool.and_eq_true] at hx ⊢
    exact ⟨hx.1, h x hx.2⟩) 64
theorem loo_ge {g : List Nat} {n : Nat} : ∀ {m j : Nat}, j < m → wtn g (pk g n j) (lf g n j) ≤ loo g n m
  | 0, j, h => by omega
  | m + 1, j, h => by
    unfold loo
    by_cases e : j = m
    · subst e; exact Nat.le_max_right _ _
    · exact Nat.le_trans (loo_ge (m := m) (by omega)) (Nat.le_max_left _ _)
theorem loo_at {g : List Nat} {n : Nat} : ∀ {m : Nat}, 0 < m → ∃ j, j < m ∧ loo g n m = wtn g (pk g n j) (lf g n j)
  | 0, h => by omega
  | m + 1, _ => by
    unfold loo
    by_cases h : loo g n m ≤ wtn g (pk g n m) (lf g n m)
    · exact ⟨m, by omega, Nat.max_eq_right h⟩
    · by_cases h0 : m = 0
      · subst h0; exact absurd (Nat.zero_le _) h
      · obtain ⟨j, hj, e⟩ := loo_at (g := g) (n := n) (m := m) (by omega)
        exact ⟨j, by omega, by rw [Nat.max_eq_left (by omega), e]⟩
/-- an element of a that b lacks -/
theorem pick_out {a b : List Nat} (hn : a.Nodup) (hl : b.length < a.length) : ∃ x, x ∈ a ∧ x ∉ b := Classical.byContradiction fun h => by
  have := nodup_sub a b hn fun x hx => Classical.byContradiction fun hb => h ⟨x, hx, hb⟩
  omega
theorem greedy {g : List Nat} {n : Nat} {ls : Nat → List Nat} (U : Und g n) (hn : n ≤ 16) (hN : ∀ v, v < n → (ls v).Nodup) (hL : ∀ v, v < n → loo g n n < (ls v).length) : ∀ d, d ≤ n → ∃ f : Nat → Nat, (∀ v, (lf g n (n - d)).testBit v = true → f v ∈ ls v) ∧ ∀ v w, (lf g n (n - d)).testBit v = true → (lf g n (n - d)).testBit w = true → adj g v w → f v ≠ f w
  | 0, _ => by
    have e : lf g n (n - 0) = 0 := (lf_zero (Nat.le_refl n)).2 rfl
    rw [e]
    exact ⟨fun _ => 0, fun v h => by simp at h, fun v w h => by simp at h⟩
  | d + 1, hd => by
    obtain ⟨f, h1, h2⟩ := greedy U hn hN hL d (by omega)
    obtain ⟨j, hj⟩ : ∃ j, j = n - (d + 1) := ⟨_, rfl⟩
    have hjn : j < n := by omega
    rw [show n - d = j + 1 by omega] at h1 h2
    rw [← hj]
    obtain ⟨p1, p2, -, -⟩ := pk_facts (g := g) hjn
    have hlf : ∀ v, (lf g n (j + 1)).testBit v = true ↔ (lf g n j).testBit v = true ∧ v ≠ pk g n j := fun v => by
      show (ldiff (lf g n j) (pw (bst g n (lf g n j)))).testBit v = true ↔ _
      rw [testBit_ldiff, pw, Nat.testBit_two_pow]
      show _ ↔ _ ∧ v ≠ bst g n (lf g n j)
      by_cases e : bst g n (lf g n j) = v
      · simp [e]
      · simp [e, Ne.symm e]
    have hlen : ((bl ((g[pk g n j]?.getD 0) &&& lf g n j) 64).map f).length < (ls (pk g n j)).length := by
      rw [List.length_map]
      have e1 := bl_size ((g[pk g n j]?.getD 0) &&& lf g n j) 64
      have e2 := loo_ge (g := g) (n := n) hjn
      have e3 := hL _ p1
      have e4 : wtn g (pk g n j) (lf g n j) = szTo ((g[pk g n j]?.getD 0) &&& lf g n j) 64 := rfl
      omega
    obtain ⟨x, hx1, hx2⟩ := pick_out (hN _ p1) hlen
    have hfree : ∀ w, (lf g n j).testBit w = true → adj g (pk g n j) w → f w ≠ x := fun w hw ha e => hx2 (List.mem_map.2 ⟨w, mem_bl.2 ⟨by have := lf_lt j hw; omega, by rw [Nat.testBit_and, hw, Bool.and_true]; exact ha⟩, e⟩)
    refine ⟨fun v => if v = pk g n j then x else f v, fun v hv => ?_, fun v w hv hw ha => ?_⟩
    · show (if v = pk g n j then x else f v) ∈ ls v
      by_cases e : v = pk g n j
      · rw [if_pos e, e]; exact hx1
      · rw [if_neg e]; exact h1 v ((hlf v).2 ⟨hv, e⟩)
    · show (if v = pk g n j then x else f v) ≠ (if w = pk g n j then x else f w)
      have hne := U.ne _ _ ha
      by_cases e : v = pk g n j
      · rw [if_pos e, if_neg (fun e' => hne (by rw [e, e']))]
        exact fun e' => hfree w hw (e ▸ ha) e'.symm
      · rw [if_neg e]
        by_cases e2 : w = pk g n j
        · rw [if_pos e2]; exact hfree v hv (by rw [← e2]; exact U.sym _ _ ha)
        · rw [if_neg e2]; exact h2 v w ((hlf v).2 ⟨hv, e⟩) ((hlf w).2 ⟨hw, e2⟩) ha
theorem greedy_fam {g : List Nat} {n : Nat} {ls : Nat → List Nat} (U : Und g n) (hn : n ≤ 16) (hN : ∀ v, v < n → (ls v).Nodup) (hL : ∀ v, v < n → loo g n n < (ls v).length) : ∃ f, FamC g n ls f := by
  obtain ⟨f, h1, h2⟩ := greedy U hn hN hL n (Nat.le_refl _)
  have e : ∀ v, v < n → (lf g n (n - n)).testBit v = true := fun v hv => by
    rw [Nat.sub_self]; show (full n).testBit v = true
    rw [testBit_full]; simpa using hv
  exact ⟨f, fun i hi => h1 i (e i hi), fun i k hi hk _ ha => h2 i k (e i hi) (e k hk) ha⟩
end Go.Proofs.YtpknnjcbcndbbaaDoor
namespace Go.Proofs.YtpknnjcbcndbbaaDoor
open Go.RowKit

def SubB (s t : Nat) : Prop := ∀ x, s.testBit x = true → t.testBit x = true
theorem pasK_mono (g : List Nat) (k s : Nat) (v : Nat) : ∀ d, pasK g k s (v + d) ≤ pasK g k s v
  | 0 => Nat.le_refl _
  | d + 1 => by
    refine Nat.le_trans ?_ (pasK_mono g k s v d)
    show (if (pasK g k s (v + d)).testBit (v + d) = true ∧ wtn g (v + d) (pasK g k s (v + d)) < k then ldiff (pasK g k s (v + d)) (pw (v + d)) else pasK g k s (v + d)) ≤ pasK g k s (v + d)
    split
    · exact ldiff_le _ _
    · exact Nat.le_refl _
theorem pasK_fix {g : List Nat} {k s n : Nat} (h : pasK g k s n = s) {v : Nat} (hv : v < n) (hs : s.testBit v = true) : k ≤ wtn g v s := by
  have e : ∀ u, u ≤ n → pasK g k s u = s := fun u hu => by
    have h1 := pasK_mono g k s u (n - u)
    rw [show u + (n - u) = n by omega, h] at h1
    exact Nat.le_antisymm (pasK_le g k s u) h1
  refine Nat.le_of_not_lt fun hlt => ?_
  have h2 := e (v + 1) (by omega)
  unfold pasK at h2
  rw [e v (by omega), if_pos ⟨hs, hlt⟩] at h2
  have : (ldiff s (pw v)).testBit v = false := by
    rw [testBit_ldiff, pw, Nat.testBit_two_pow]; simp
  rw [h2, hs] at this
  cases this
theorem pasK_keep {g : List Nat} {k s t : Nat} (ht : ∀ v, t.testBit v = true → k ≤ wtn g v t) (hst : SubB t s) : ∀ v, SubB t (pasK g k s v)
  | 0 => hst
  | v + 1 => by
    have ih := pasK_keep ht hst v
    unfold pasK
    split
    · rename_i hc
      intro x hx
      rw [testBit_ldiff, ih x hx, pw, Nat.testBit_two_pow]
      by_cases e : v = x
      · subst e
        have h1 := ht v hx
        have h2 := wtn_sub (g := g) (v := v) ih
        omega
      · simp [e]
    · exact ih
theorem cor_keep {g : List Nat} {n k t : Nat} (ht : ∀ v, t.testBit v = true → k ≤ wtn g v t) (hn : SubB t (full n)) : ∀ m, SubB t (cor g n k m)
  | 0 => hn
  | m + 1 => pasK_keep ht (cor_keep ht hn m) n
theorem sub_lf {g : List Nat} {n s : Nat} : ∀ j, (∀ i, i < j → s.testBit (pk g n i) = false) → SubB s (full n) → SubB s (lf g n j)
  | 0, _, h => h
  | j + 1, hi, h => fun x hx => by
    have h1 := sub_lf (g := g) j (fun i hij => hi i (by omega)) h x hx
    show (ldiff (lf g n j) (pw (bst g n (lf g n j)))).testBit x = true
    rw [testBit_ldiff, h1, pw, Nat.testBit_two_pow]
    by_cases e : bst g n (lf g n j) = x
    · have h2 := hi j (by omega)
      have h3 : pk g n j = x := e
      rw [h3, hx] at h2
      cases h2
    · simp [e]
theorem core_iff {g : List Nat} {n k s : Nat} (hn1 : 1 ≤ n) (h : CoreIs g n k s) : s ≠ 0 ↔ k ≤ loo g n n := by
  obtain ⟨m, rfl, hfix⟩ := h
  have hfull : SubB (cor g n k m) (full n) := by
    have key : ∀ m, SubB (cor g n k m) (full n) := by
      intro m
      induction m with
      | zero => exact fun x h => h
      | succ m ih =>
        have hp : ∀ v, SubB (pasK g k (cor g n k m) v) (cor g n k m) := by
          intro v
          induction v with
          | zero => exact fun x h => h
          | succ v ihv =>
            unfold pasK
            split
            · intro x hx
              rw [testBit_ldiff, Bool.and_eq_true] at hx
              exact ihv x hx.1
            · exact ihv
        exact fun x hx => ih x (hp n x hx)
    exact key m
  constructor
  · intro h0
    -- the first of the order that lies in the core
    obtain ⟨x, hx⟩ : ∃ x, (cor g n k m).testBit x = true := Classical.byContradiction fun hc => h0 (Nat.eq_of_testBit_eq fun i => by
      rw [Nat.zero_testBit]
      cases hb : (cor g n k m).testBit i with
      | false => rfl
      | true => exact absurd ⟨i, hb⟩ hc)
    have hex : ∃ j, j < n ∧ (cor g n k m).testBit (pk g n j) = true := Classical.byContradiction fun hc => by
      have h1 := sub_lf (g := g) (n := n) (s := cor g n k m) n (fun i hi => by
        cases hb : (cor g n k m).testBit (pk g n i) with
        | false => rfl
        | true => exact absurd ⟨i, hi, hb⟩ hc) hfull x hx
      rw [(lf_zero (Nat.le_refl n)).2 rfl, Nat.zero_testBit] at h1
      cases h1
    have hmin : ∀ b, (∃ j, j < b ∧ j < n ∧ (cor g n k m).testBit (pk g n j) = true) → ∃ j, j < n ∧ (cor g n k m).testBit (pk g n j) = true ∧ ∀ i, i < j → (cor g n k m).testBit (pk g n i) = false := by
      intro b
      induction b with
      | zero => rintro ⟨j, hj, _⟩; omega
      | succ b ih =>
        rintro ⟨j, hj, hjn, hjb⟩
        by_cases hl : ∃ j, j < b ∧ j < n ∧ (cor g n k m).testBit (pk g n j) = true
        · exact ih hl
        · refine ⟨j, hjn, hjb, fun i hi => ?_⟩
          cases hb : (cor g n k m).testBit (pk g n i) with
          | false => rfl
          | true => exact absurd ⟨i, by omega, by omega, hb⟩ hl
    obtain ⟨j0, hj0, hb0⟩ := hex
    obtain ⟨j, hj, hjb, hji⟩ := hmin n ⟨j0, hj0, hj0, hb0⟩
    have hsub := sub_lf j hji hfull
    have h1 := pasK_fix hfix (pk_facts (g := g) hj).1 hjb
    have h2 := wtn_sub (g := g) (v := pk g n j) hsub
    exact Nat.le_trans h1 (Nat.le_trans h2 (loo_ge hj))
  · intro hk h0
    obtain ⟨j, hj, e⟩ := loo_at (g := g) (n := n) (m := n) (by omega)
    obtain ⟨p1, p2, -, p4⟩ := pk_facts (g := g) hj
    have hsub := cor_keep (g := g) (n := n) (k := k) (t := lf g n j) (fun v hv => Nat.le_trans (by rw [← e]; exact hk) (p4 v hv)) (fun x hx => by rw [testBit_full]; simpa using lf_lt j hx) m
    have := hsub _ p2
    rw [h0, Nat.zero_testBit] at this
    cases this
end Go.Proofs.YtpknnjcbcndbbaaDoor
