/- A law's walk: ShiftFishburn. Ascent lists: the law's copy of a list, the program's and the document's tests: walks. The program's test of an ascent list: a walk. The document's count of ascent lists: plain words, rows of int64. The document's count of ascent lists: a walk. A law's walk: ShiftAscents. Positions that represent an order: the document's and the program's tests: walks. Judges: plain, and the two judges side by side. -/
import Derived.Test.YtgpijajgaclhfaaDoorG1118
set_option linter.unusedVariables false
set_option linter.unusedSimpArgs false
namespace Go.Proofs.YtgpijajgaclhfaaDoor
open Go.RowKit Go.Shelf

theorem ins_at {L : List Nat} {s : Nat} : ∀ j, j ≤ L.length → (∀ i, i < j → LtS (nthN L i) s) ∨ ∃ k, k < j ∧ (∀ i, i < k → LtS (nthN L i) s) ∧ ¬ LtS (nthN L k) s
  | 0, _ => .inl fun i h => by omega
  | j + 1, hj => by
    rcases ins_at (L := L) (s := s) j (by omega) with h | ⟨k, h1, h2⟩
    · by_cases e : LtS (nthN L j) s
      · refine .inl fun i hi => ?_
        by_cases e2 : i = j
        · subst e2; exact e
        · exact h i (by omega)
      · exact .inr ⟨j, by omega, h, e⟩
    · exact .inr ⟨k, by omega, h2⟩
theorem setsTo_ex (n : Nat) (r : Nat → Nat → Bool) : ∀ x, ∃ L, SetsTo n r x L
  | 0 => ⟨[], List.Pairwise.nil, fun s => Iff.intro (fun h => by cases h) (fun ⟨y, hy, _⟩ => by omega)⟩
  | x + 1 => by
    obtain ⟨L, h⟩ := setsTo_ex n r x
    rcases ins_at (L := L) (s := bef n r x) L.length (Nat.le_refl _) with h1 | ⟨k, hk, h1, h2⟩
    · exact ⟨_, h.put (Nat.le_refl _) h1 (fun h => by omega)⟩
    · by_cases e : nthN L k = bef n r x
      · exact ⟨_, h.has hk e⟩
      · refine ⟨_, h.put (Nat.le_of_lt hk) h1 fun _ => ?_⟩
        rcases ltS_tri (nthN L k) (bef n r x) with h3 | h3 | h3
        · exact absurd h3 h2
        · exact absurd h3 e
        · exact h3
theorem sets_ex (n : Nat) (r : Nat → Nat → Bool) : ∃ L, SetsL n r L := (setsTo_ex n r n).elim fun L h => ⟨L, h.all⟩
theorem canonPs_at {n : Nat} {r : Nat → Nat → Bool} {L : List Nat} {x : Nat} (hx : x < n) : la (canonPs n r L) x = ((lftS L (bef n r x) : Nat) : Int) ∧ ua (canonPs n r L) x = ((rgtTo L x L.length : Nat) : Int) := by
  unfold la ua canonPs
  rw [List.getElem?_map, List.getElem?_range hx]
  exact ⟨rfl, rfl⟩
theorem canon_rel {k : Nat} {R : Nat → Nat → Bool} {L : List Nat} (hk : TabOK k (fun _ => k) R) (hL : SetsL k R L) (h22 : ∀ a b c d, ¬ TwoTwo k R a b c d) {x y : Nat} (hx : x < k) (hy : y < k) : relI (canonPs k R L) x y = R x y := by
  unfold relI
  rw [(canonPs_at hx).2, (canonPs_at hy).1]
  have := canon hk.ord hk.n1 (by have := hk.n12; omega) hL h22 hx hy
  rw [Bool.eq_iff_iff, this]
  simp
theorem canon_ok {k : Nat} {R : Nat → Nat → Bool} {L : List Nat} (hk : TabOK k (fun _ => k) R) (hL : SetsL k R L) (h22 : ∀ a b c d, ¬ TwoTwo k R a b c d) : ivsOK (canonPs k R L) := by
  refine ⟨by rw [canonPs_len]; exact hk.n1, by rw [canonPs_len]; exact hk.n12, fun x hx => ?_⟩
  rw [canonPs_len] at hx
  have h1 := canon_rel hk hL h22 hx hx
  rw [hk.ord.irr x hx] at h1
  unfold relI at h1
  simp at h1
  exact h1
theorem EndsP.congr {l u l' u' : Nat → Int} {m : Nat} {all : List Int} (h : EndsP l u m all) (e : ∀ i, i < m → l i = l' i ∧ u i = u' i) : EndsP l' u' m all :=
  ⟨h.nd, fun v => (h.mem v).trans ⟨fun ⟨i, hi, h3⟩ => ⟨i, hi, by rw [← (e i hi).1, ← (e i hi).2]; exact h3⟩, fun ⟨i, hi, h3⟩ => ⟨i, hi, by rw [(e i hi).1, (e i hi).2]; exact h3⟩⟩⟩
theorem canon_many {k : Nat} {R : Nat → Nat → Bool} {L : List Nat} {all : List Int} (hk : TabOK k (fun _ => k) R) (hL : SetsL k R L) (h22 : ∀ a b c d, ¬ TwoTwo k R a b c d) (E : EndsP (la (canonPs k R L)) (ua (canonPs k R L)) k all) : all.length = L.length :=
  canon_ends hk.ord hk.n1 (by have := hk.n12; omega) hL h22 (E.congr fun i hi => canonPs_at hi)
theorem relI_few {ps : List (Int × Int)} {L : List Nat} {all : List Int} (hL : SetsL ps.length (relI ps) L) (E : EndsP (la ps) (ua ps) ps.length all) : L.length ≤ all.length := by
  refine fewest_ends (l := la ps) (u := ua ps) (n := ps.length) ⟨hL.up, fun s => (hL.mem s).trans ?_⟩ E
  have e : ∀ y, y < ps.length → bef ps.length (relI ps) y = bef ps.length (ivR (la ps) (ua ps) ps.length) y := fun y hy => bs_congr fun x hx => by
    unfold relI ivR; simp [hx, hy]
  exact ⟨fun ⟨y, hy, h⟩ => ⟨y, hy, by rw [h, e y hy]⟩, fun ⟨y, hy, h⟩ => ⟨y, hy, by rw [h, e y hy]⟩⟩
/-- the law's second part: any intervals -/
theorem ends_canon (p : Option Addr) (k c : Nat) (R : Nat → Nat → Bool) (L : List Nat) (w : World) (hk : TabOK k (fun _ => k) R) (hL : SetsL k R L) (h22 : ∀ a b c d, ¬ TwoTwo k R a b c d) (hP : Pairs w p (canonPs k R L)) :
    Calls Tryd.prog 32 #[.slice p k c] w fun e w' => e = .returned (.int .i64 (L.length : Nat)) ∧ Below w.heap.size w w' := by
  have := ends_any p c (canonPs k R L) w (by rw [canonPs_len]; have := hk.n12; omega) hP
  rw [canonPs_len] at this
  refine this.mono ?_
  rintro e w' ⟨all, rfl, hE, hB⟩
  rw [canon_many hk hL h22 hE]
  exact ⟨rfl, hB⟩
theorem from_canon (p : Option Addr) (k c : Nat) (R : Nat → Nat → Bool) (L : List Nat) (w : World) (hk : TabOK k (fun _ => k) R) (hL : SetsL k R L) (h22 : ∀ a b c d, ¬ TwoTwo k R a b c d) (hP : Pairs w p (canonPs k R L)) :
    Calls Tryd.prog 14 #[.slice p k c] w fun e w' => ∃ q d, e = .returned (.tuple #[.slice q k d, .int .i64 0]) ∧ TblI w' q k (fun _ => k) (relI (canonPs k R L)) ∧ Below w.heap.size w w' := by
  have := from_ok p c (canonPs k R L) w (canon_ok hk hL h22) hP
  rw [canonPs_len] at this
  exact this
theorem same_canon (p q : Option Addr) (k c d : Nat) (R : Nat → Nat → Bool) (L : List Nat) (w : World) (hk : TabOK k (fun _ => k) R) (hL : SetsL k R L) (h22 : ∀ a b c d, ¬ TwoTwo k R a b c d) (hT : TblI w p k (fun _ => k) R) (hQ : TblI w q k (fun _ => k) (relI (canonPs k R L))) :
    Calls Tryd.prog 19 #[.slice p k c, .slice q k d] w fun e w' => e = .returned (.bool true) ∧ Below w.heap.size w w' := by
  refine (rSame_any p q k c d R _ w (by have := hk.n12; omega) hT hQ).mono ?_
  rintro e w' ⟨h1, z, rfl⟩
  exact ⟨h1.dec (b := true) ⟨fun _ i j hi hj => (canon_rel hk hL h22 hi hj).symm, fun _ => rfl⟩, below_dr (Below.refl _ _) z⟩
set_option maxRecDepth 100000 in
set_option maxHeartbeats 8000000 in
theorem law6 (a : Option Addr) (n cap : Nat) (ln : Nat → Nat) (r : Nat → Nat → Bool) (a2 : Option Addr) (cap2 : Nat) (ps : List (Int × Int)) (w : World) (hP : TabIn w a n cap ln r) (hP2 : PairsIn w a2 cap2 ps) (hT : Tab w) :
    Calls Tryd.prog 6 #[.slice a n cap, .slice a2 ps.length cap2] w fun e w' => e = .returned (.bool true) ∧ Below w.heap.size w w' := by
  have HTM := Lib.hid (tame_any a n cap ln r w hP)
  have HSP : Hid (∀ W, Below w.heap.size w W → Calls Tryd.prog 13 #[.slice a2 ps.length cap2] W fun e w' => ∃ p c, e = .returned (.slice p (ps.take 13).length c) ∧ Pairs w' p (ps.take 13) ∧ Below W.heap.size W w') := fun W hW => spans_any a2 cap2 ps W ⟨hP2.g.below hW (Nat.le_refl _), hP2.fits, hP2.capm, hP2.nil⟩
  have HT := Lib.hid hT
  clear hP hP2 hT
  obtain ⟨len, HLEN⟩ : ∃ len, Hid (ps.length = len) := ⟨_, rfl⟩
  rw [HLEN.out] at HSP ⊢
  obtain ⟨xs, hxs⟩ : ∃ xs, Hid (xs = ps.take 13) := ⟨_, rfl⟩
  rw [← hxs.out] at HSP
  have hxl : xs.length ≤ 13 := by rw [hxs.out, List.length_take]; omega
  have HXL := Lib.hid hxl
  obtain ⟨m, HM⟩ : ∃ m, Hid (xs.length = m) := ⟨_, rfl⟩
  rw [HM.out] at HSP hxl
  clear hxs
  obtain ⟨cc, hc, hc0, hc2⟩ := CkI.code xs
  have HC := Lib.hid hc
  clear hc
  go_enter Tryd.func6, Tryd.ntmps6
  go_upto_region 2 with (go_at_call 22; refine HTM.out.mono ?_; rintro e w1 ⟨p, k, c, R, rfl, hT1, hok, hB1⟩; have HT1 := Lib.hid hT1; have HOK := Lib.hid hok; have HB1 := Lib.hid hB1; clear hT1 hok hB1)
  clear HTM
  have hk12 := HOK.out.n12
  obtain ⟨L, hL⟩ : ∃ L, SetsL k R L := sets_ex k R
  have HL := Lib.hid hL
  clear hL
  have htb1 := HT.out.below HB1.out (Nat.le_refl _)
  by_cases h22 : ∃ a b c d, TwoTwo k R a b c d
  · have H22 := Lib.hid h22
    have HIV := Lib.hid (ivs_two p k c R w1 HOK.out h22 htb1 HT1.out)
    clear h22 htb1
    go_upto_region 3 with (go_at_call 24; refine HIV.out.mono ?_; rintro e w2 ⟨rfl, hB2⟩; have HT2 := Lib.hid (HT1.out.below hB2 (Nat.le_refl _)); have HB2 := Lib.hid (HB1.out.trans (hB2.mono HB1.out.size)); clear hB2)
    have HTY := Lib.hid (two_yes p k c R w2 HOK.out H22.out (HT.out.below HB2.out (Nat.le_refl _)) HT2.out)
    clear HIV
    go_upto_region 4 with (go_at_call 25; refine HTY.out.mono ?_; rintro e w3 ⟨x0, x1, x2, x3, rfl, htt, hB3⟩; have HT3 := Lib.hid (HT2.out.below hB3 (Nat.le_refl _)); have HB3 := Lib.hid (HB2.out.trans (hB3.mono HB2.out.size)); clear htt hB3)
    have HB4 := Lib.hid (HB3.out.alloc HB3.out.size (.cells #[.int .i64 (x0 : Int), .int .i64 (x1 : Int), .int .i64 (x2 : Int), .int .i64 (x3 : Int)] 45))
    have HT4 := Lib.hid (HT3.out.below ((Below.refl w3.heap.size w3).alloc (Nat.le_refl _) (.cells #[.int .i64 (x0 : Int), .int .i64 (x1 : Int), .int .i64 (x2 : Int), .int .i64 (x3 : Int)] 45)) (Nat.le_refl _))
    generalize w3.alloc (.cells #[.int .i64 (x0 : Int), .int .i64 (x1 : Int), .int .i64 (x2 : Int), .int .i64 (x3 : Int)] 45) = X at *
    have HMG := Lib.hid (mag_ok p k c R X HOK.out HT4.out)
    clear HTY
    go_upto_region 5 with (go_at_call 23; refine HMG.out.mono ?_; rintro e W0 ⟨L', rfl, hL', hB5⟩; rw [hL'.unique HL.out]; have HB0 := Lib.hid (HB4.out.trans (hB5.mono HB4.out.size)); clear hL' hB5)
    clear HMG
    go_upto_region 11 with (fail)
    have HSPX := Lib.hid (HSP.out W0 HB0.out)
    go_upto_region 12 with (go_at_call 13; refine HSPX.out.mono ?_; rintro e w6 ⟨p6, c6, rfl, hP6, hB6⟩; have HP6 := Lib.hid hP6; have HB6 := Lib.hid (HB0.out.trans (hB6.mono HB0.out.size)); clear hP6 hB6)
    have HRI : Hid (Calls Tryd.prog 16 #[.slice p6 m c6] w6 fun e w' => e = .returned (.int .i64 cc) ∧ ∃ q, w' = w6.drewN q) := by
      have := rIntervals_any p6 c6 xs w6 (by have := HXL.out; omega) HP6.out
      rw [HM.out] at this
      refine this.mono ?_
      rintro e w' ⟨⟨d, rfl, hd⟩, h⟩
      rw [HC.out.unique hd]; exact ⟨rfl, h⟩
    have HAWA : Hid (∀ V, Below w.heap.size w V → Calls Tryd.prog 17 #[] V fun e w' => e = .returned (.bool true) ∧ Below V.heap.size V w') := fun V hV => awake_any V (HT.out.below hV (Nat.le_refl _))
    by_cases h0 : cc = 0
    · have hok := HC.out.zero.1 h0
      have HOX := Lib.hid hok
      have hm12 : m ≤ 12 := by have := hok.2.1; rw [HM.out] at this; exact this
      subst h0
      have HTX : Hid (TabOK m (fun _ => m) (relI xs)) := by have := relI_tab hok; rw [HM.out] at this; exact this
      have HNX : Hid (∀ a b c d, ¬ TwoTwo m (relI xs) a b c d) := by have := relI_no22 (ps := xs); rw [HM.out] at this; exact this
      obtain ⟨L2, hL2⟩ : ∃ L2, SetsL m (relI xs) L2 := sets_ex m (relI xs)
      have HL2 := Lib.hid hL2
      clear hL2 hok
      go_upto_region 14 with (go_at_call 16; refine HRI.out.mono ?_; rintro e w7 ⟨rfl, q7, hw7⟩; subst hw7)
      have HB7 := Lib.hid (below_dr HB6.out q7)
      have HP7 : Hid (Pairs (w6.drewN q7) p6 xs) := HP6.out.below (below_dr (Below.refl w6.heap.size _) q7) (Nat.le_refl _)
      generalize w6.drewN q7 = w7 at *
      have HF : Hid (Calls Tryd.prog 14 #[.slice p6 m c6] w7 fun e w' => ∃ p c, e = .returned (.tuple #[.slice p m c, .int .i64 0]) ∧ TblI w' p m (fun _ => m) (relI xs) ∧ Below w7.heap.size w7 w') := by
        have := from_ok p6 c6 xs w7 HOX.out HP7.out
        rw [HM.out] at this
        exact this
      go_upto_region 15 with (go_at_call 14; refine HF.out.mono ?_; rintro e w8 ⟨p8, c8, rfl, hT8, hB8⟩; have HT8 := Lib.hid hT8; have HP8 := Lib.hid (HP7.out.below hB8 (Nat.le_refl _)); have HB8 := Lib.hid (HB7.out.trans (hB8.mono HB7.out.size)); clear hT8 hB8)
      have HMG := Lib.hid (mag_ok p8 m c8 (relI xs) w8 HTX.out HT8.out)
      clear HF
      go_upto_region 16 with (go_at_call 23; refine HMG.out.mono ?_; rintro e w9 ⟨L', rfl, hL', hB9⟩; rw [hL'.unique HL2.out]; have HT9 := Lib.hid (HT8.out.below hB9 (Nat.le_refl _)); have HP9 := Lib.hid (HP8.out.below hB9 (Nat.le_refl _)); have HB9 := Lib.hid (HB8.out.trans (hB9.mono HB8.out.size)); clear hL' hB9)
      have HIV := Lib.hid (ivs_no p8 m c8 (relI xs) L2 w9 HTX.out HL2.out HNX.out (HT.out.below HB9.out (Nat.le_refl _)) HT9.out)
      clear HMG
      go_upto_region 17 with (go_at_call 24; refine HIV.out.mono ?_; rintro e w10 ⟨q10, c10, rfl, hQ10, hB10⟩; have HQ10 := Lib.hid hQ10; have HP10 := Lib.hid (HP9.out.below hB10 (Nat.le_refl _)); have HB10 := Lib.hid (HB9.out.trans (hB10.mono HB9.out.size)); clear hQ10 hB10)
      clear HIV
      have HE1 := Lib.hid (ends_canon q10 m c10 (relI xs) L2 w10 HTX.out HL2.out HNX.out HQ10.out)
      have HE2 : Hid (∀ V, Below w10.heap.size w10 V → Calls Tryd.prog 32 #[.slice p6 m c6] V fun e w' => (∃ z : Nat, e = .returned (.int .i64 (z : Int)) ∧ L2.length ≤ z) ∧ Below V.heap.size V w') := fun V hV => by
        have := ends_any p6 c6 xs V HXL.out (HP10.out.below hV (Nat.le_refl _))
        rw [HM.out] at this
        refine this.mono ?_
        rintro e w' ⟨all, rfl, hE, hB⟩
        have hl2 := HL2.out
        rw [← HM.out] at hl2 hE
        exact ⟨⟨_, rfl, relI_few hl2 hE⟩, hB⟩
      obtain ⟨ll, hll⟩ : ∃ ll, Hid (L2.length = ll) := ⟨_, rfl⟩
      rw [hll.out] at HE1 HE2 ⊢
      clear hll
      go_wp2_with (first
        | (go_at_call 32; with_reducible refine HE1.out.mono ?_; rintro e w11 ⟨rfl, hB11⟩; have HB11 := Lib.hid hB11; have HE3 := Lib.hid (HE2.out w11 hB11); clear hB11)
        | (go_at_call 32; with_reducible refine HE3.out.mono ?_; rintro e w12 ⟨⟨z, rfl, hz⟩, hB12⟩; have hzz : (ll : Int) ≤ (z : Int) := (by omega); have HB12 := Lib.hid (HB10.out.trans ((HB11.out.trans (hB12.mono HB11.out.size)).mono HB10.out.size)); have HAW := Lib.hid (HAWA.out w12 HB12.out); clear hB12)
        | (go_at_call 17; refine HAW.out.mono ?_; rintro e w13 ⟨rfl, hB13⟩; have HB13 := Lib.hid (HB12.out.trans (hB13.mono HB12.out.size)); clear hB13))
      go_ret
      exact ⟨rfl, HB13.out⟩
    · have g0 : (cc != 0) = true := by rw [bne_iff_ne]; exact h0
      have HAW := Lib.hid (fun q => HAWA.out (w6.drewN q) (below_dr HB6.out q))
      go_wp2_with (first
        | (go_at_call 16; refine HRI.out.mono ?_; rintro e w7 ⟨rfl, q7, hw7⟩; subst hw7)
        | (go_at_call 17; refine (HAW.out _).mono ?_; rintro e w13 ⟨rfl, hB13⟩; have HB13 := Lib.hid (HB6.out.trans (((below_dr (Below.refl w6.heap.size _) q7).trans hB13).mono HB6.out.size)); clear hB13))
      go_ret
      exact ⟨rfl, HB13.out⟩
  · have HNO : Hid (∀ a b c d, ¬ TwoTwo k R a b c d) := fun a b c d h => h22 ⟨a, b, c, d, h⟩
    have HIV := Lib.hid (ivs_no p k c R L w1 HOK.out HL.out HNO.out htb1 HT1.out)
    clear h22 htb1
    go_upto_region 3 with (go_at_call 24; refine HIV.out.mono ?_; rintro e w2 ⟨q2, c2, rfl, hQ2, hB2⟩; have HQ2 := Lib.hid hQ2; have HT2 := Lib.hid (HT1.out.below hB2 (Nat.le_refl _)); have HB2 := Lib.hid (HB1.out.trans (hB2.mono HB1.out.size)); clear hB2 hQ2)
    have HTY := Lib.hid (two_no p k c R w2 HOK.out HNO.out (HT.out.below HB2.out (Nat.le_refl _)) HT2.out)
    clear HIV
    go_upto_region 4 with (go_at_call 25; refine HTY.out.mono ?_; rintro e w3 ⟨rfl, hB3⟩; have HQ3 := Lib.hid (HQ2.out.below hB3 (Nat.le_refl _)); have HT3 := Lib.hid (HT2.out.below hB3 (Nat.le_refl _)); have HB3 := Lib.hid (HB2.out.trans (hB3.mono HB2.out.size)); clear hB3)
    have HB4 := Lib.hid (HB3.out.alloc HB3.out.size (.cells #[.int .i64 0, .int .i64 0, .int .i64 0, .int .i64 0] 45))
    have HB34 : Hid (Below w3.heap.size w3 (w3.alloc (.cells #[.int .i64 0, .int .i64 0, .int .i64 0, .int .i64 0] 45))) := (Below.refl w3.heap.size w3).alloc (Nat.le_refl _) (.cells #[.int .i64 0, .int .i64 0, .int .i64 0, .int .i64 0] 45)
    have HT4 := Lib.hid (HT3.out.below HB34.out (Nat.le_refl _))
    have HQ4 := Lib.hid (HQ3.out.below HB34.out (Nat.le_refl _))
    clear HB34
    generalize w3.alloc (.cells #[.int .i64 0, .int .i64 0, .int .i64 0, .int .i64 0] 45) = X at *
    have HMG := Lib.hid (mag_ok p k c R X HOK.out HT4.out)
    clear HTY
    go_upto_region 5 with (go_at_call 23; refine HMG.out.mono ?_; rintro e w5 ⟨L', rfl, hL', hB5⟩; rw [hL'.unique HL.out]; have HT5 := Lib.hid (HT4.out.below hB5 (Nat.le_refl _)); have HQ5 := Lib.hid (HQ4.out.below hB5 (Nat.le_refl _)); have HB5 := Lib.hid (HB4.out.trans (hB5.mono HB4.out.size)); clear hL' hB5)
    clear HMG
    have HFC := Lib.hid (from_canon q2 k c2 R L w5 HOK.out HL.out HNO.out HQ5.out)
    go_upto_region 9 with (go_at_call 14; refine HFC.out.mono ?_; rintro e w51 ⟨q51, c51, rfl, hT51, hB51⟩; have HT51 := Lib.hid hT51; have HT5' := Lib.hid (HT5.out.below hB51 (Nat.le_refl _)); have HQ5' := Lib.hid (HQ5.out.below hB51 (Nat.le_refl _)); have HB51 := Lib.hid (HB5.out.trans (hB51.mono HB5.out.size)); clear hT51 hB51)
    clear HFC
    have HSM := Lib.hid (same_canon p q51 k c c51 R L w51 HOK.out HL.out HNO.out HT5'.out HT51.out)
    have HEC : Hid (∀ V, Below w51.heap.size w51 V → Calls Tryd.prog 32 #[.slice q2 k c2] V fun e w' => e = .returned (.int .i64 (L.length : Nat)) ∧ Below V.heap.size V w') := fun V hV => ends_canon q2 k c2 R L V HOK.out HL.out HNO.out (HQ5'.out.below hV (Nat.le_refl _))
    obtain ⟨l1, hl1⟩ : ∃ l1, Hid (L.length = l1) := ⟨_, rfl⟩
    rw [hl1.out] at HEC ⊢
    clear hl1
    go_upto_region 11 with (first
      | (go_at_call 19; refine HSM.out.mono ?_; rintro e w52 ⟨rfl, hB52⟩; have HB52 := Lib.hid hB52; have HEC2 := Lib.hid (HEC.out w52 hB52); clear hB52)
      | (go_at_call 32; refine HEC2.out.mono ?_; rintro e W0 ⟨rfl, hB53⟩; have HB0 := Lib.hid (HB51.out.trans ((HB52.out.trans (hB53.mono HB52.out.size)).mono HB51.out.size)); clear hB53))
    clear HSM HEC HEC2
    have HSPX := Lib.hid (HSP.out W0 HB0.out)
    go_upto_region 12 with (go_at_call 13; refine HSPX.out.mono ?_; rintro e w6 ⟨p6, c6, rfl, hP6, hB6⟩; have HP6 := Lib.hid hP6; have HB6 := Lib.hid (HB0.out.trans (hB6.mono HB0.out.size)); clear hP6 hB6)
    have HRI : Hid (Calls Tryd.prog 16 #[.slice p6 m c6] w6 fun e w' => e = .returned (.int .i64 cc) ∧ ∃ q, w' = w6.drewN q) := by
      have := rIntervals_any p6 c6 xs w6 (by have := HXL.out; omega) HP6.out
      rw [HM.out] at this
      refine this.mono ?_
      rintro e w' ⟨⟨d, rfl, hd⟩, h⟩
      rw [HC.out.unique hd]; exact ⟨rfl, h⟩
    have HAWA : Hid (∀ V, Below w.heap.size w V → Calls Tryd.prog 17 #[] V fun e w' => e = .returned (.bool true) ∧ Below V.heap.size V w') := fun V hV => awake_any V (HT.out.below hV (Nat.le_refl _))
    by_cases h0 : cc = 0
    · have hok := HC.out.zero.1 h0
      have HOX := Lib.hid hok
      have hm12 : m ≤ 12 := by have := hok.2.1; rw [HM.out] at this; exact this
      subst h0
      have HTX : Hid (TabOK m (fun _ => m) (relI xs)) := by have := relI_tab hok; rw [HM.out] at this; exact this
      have HNX : Hid (∀ a b c d, ¬ TwoTwo m (relI xs) a b c d) := by have := relI_no22 (ps := xs); rw [HM.out] at this; exact this
      obtain ⟨L2, hL2⟩ : ∃ L2, SetsL m (relI xs) L2 := sets_ex m (relI xs)
      have HL2 := Lib.hid hL2
      clear hL2 hok
      go_upto_region 14 with (go_at_call 16; refine HRI.out.mono ?_; rintro e w7 ⟨rfl, q7, hw7⟩; subst hw7)
      have HB7 := Lib.hid (below_dr HB6.out q7)
      have HP7 : Hid (Pairs (w6.drewN q7) p6 xs) := HP6.out.below (below_dr (Below.refl w6.heap.size _) q7) (Nat.le_refl _)
      generalize w6.drewN q7 = w7 at *
      have HF : Hid (Calls Tryd.prog 14 #[.slice p6 m c6] w7 fun e w' => ∃ p c, e = .returned (.tuple #[.slice p m c, .int .i64 0]) ∧ TblI w' p m (fun _ => m) (relI xs) ∧ Below w7.heap.size w7 w') := by
        have := from_ok p6 c6 xs w7 HOX.out HP7.out
        rw [HM.out] at this
        exact this
      go_upto_region 15 with (go_at_call 14; refine HF.out.mono ?_; rintro e w8 ⟨p8, c8, rfl, hT8, hB8⟩; have HT8 := Lib.hid hT8; have HP8 := Lib.hid (HP7.out.below hB8 (Nat.le_refl _)); have HB8 := Lib.hid (HB7.out.trans (hB8.mono HB7.out.size)); clear hT8 hB8)
      have HMG := Lib.hid (mag_ok p8 m c8 (relI xs) w8 HTX.out HT8.out)
      clear HF
      go_upto_region 16 with (go_at_call 23; refine HMG.out.mono ?_; rintro e w9 ⟨L', rfl, hL', hB9⟩; rw [hL'.unique HL2.out]; have HT9 := Lib.hid (HT8.out.below hB9 (Nat.le_refl _)); have HP9 := Lib.hid (HP8.out.below hB9 (Nat.le_refl _)); have HB9 := Lib.hid (HB8.out.trans (hB9.mono HB8.out.size)); clear hL' hB9)
      have HIV := Lib.hid (ivs_no p8 m c8 (relI xs) L2 w9 HTX.out HL2.out HNX.out (HT.out.below HB9.out (Nat.le_refl _)) HT9.out)
      clear HMG
      go_upto_region 17 with (go_at_call 24; refine HIV.out.mono ?_; rintro e w10 ⟨q10, c10, rfl, hQ10, hB10⟩; have HQ10 := Lib.hid hQ10; have HP10 := Lib.hid (HP9.out.below hB10 (Nat.le_refl _)); have HB10 := Lib.hid (HB9.out.trans (hB10.mono HB9.out.size)); clear hQ10 hB10)
      clear HIV
      have HE1 := Lib.hid (ends_canon q10 m c10 (relI xs) L2 w10 HTX.out HL2.out HNX.out HQ10.out)
      have HE2 : Hid (∀ V, Below w10.heap.size w10 V → Calls Tryd.prog 32 #[.slice p6 m c6] V fun e w' => (∃ z : Nat, e = .returned (.int .i64 (z : Int)) ∧ L2.length ≤ z) ∧ Below V.heap.size V w') := fun V hV => by
        have := ends_any p6 c6 xs V HXL.out (HP10.out.below hV (Nat.le_refl _))
        rw [HM.out] at this
        refine this.mono ?_
        rintro e w' ⟨all, rfl, hE, hB⟩
        have hl2 := HL2.out
        rw [← HM.out] at hl2 hE
        exact ⟨⟨_, rfl, relI_few hl2 hE⟩, hB⟩
      obtain ⟨ll, hll⟩ : ∃ ll, Hid (L2.length = ll) := ⟨_, rfl⟩
      rw [hll.out] at HE1 HE2 ⊢
      clear hll
      go_wp2_with (first
        | (go_at_call 32; with_reducible refine HE1.out.mono ?_; rintro e w11 ⟨rfl, hB11⟩; have HB11 := Lib.hid hB11; have HE3 := Lib.hid (HE2.out w11 hB11); clear hB11)
        | (go_at_call 32; with_reducible refine HE3.out.mono ?_; rintro e w12 ⟨⟨z, rfl, hz⟩, hB12⟩; have hzz : (ll : Int) ≤ (z : Int) := (by omega); have HB12 := Lib.hid (HB10.out.trans ((HB11.out.trans (hB12.mono HB11.out.size)).mono HB10.out.size)); have HAW := Lib.hid (HAWA.out w12 HB12.out); clear hB12)
        | (go_at_call 17; refine HAW.out.mono ?_; rintro e w13 ⟨rfl, hB13⟩; have HB13 := Lib.hid (HB12.out.trans (hB13.mono HB12.out.size)); clear hB13))
      go_ret
      exact ⟨rfl, HB13.out⟩
    · have g0 : (cc != 0) = true := by rw [bne_iff_ne]; exact h0
      have HAW := Lib.hid (fun q => HAWA.out (w6.drewN q) (below_dr HB6.out q))
      go_wp2_with (first
        | (go_at_call 16; refine HRI.out.mono ?_; rintro e w7 ⟨rfl, q7, hw7⟩; subst hw7)
        | (go_at_call 17; refine (HAW.out _).mono ?_; rintro e w13 ⟨rfl, hB13⟩; have HB13 := Lib.hid (HB6.out.trans (((below_dr (Below.refl w6.heap.size _) q7).trans hB13).mono HB6.out.size)); clear hB13))
      go_ret
      exact ⟨rfl, HB13.out⟩
end Go.Proofs.YtgpijajgaclhfaaDoor
namespace Go.Proofs.YtgpijajgaclhfaaDoor
open Go.ChangeShapes Go.WideShapes Go.ChangeAt Go.RowKit Go.Shelf

/-- a slice of integers as it comes in -/
structure IntsIn (w : World) (a : Option Addr) (cap : Nat) (xs : List Int) : Prop where
  g : SrcI w a xs.length (fun j => xs[j]?.getD 0)
  fits : xs.length ≤ cap
  capm : cap ≤ maxLen
  nil : a = none → cap = 0
theorem open_ints_in {H : Type} {enc : TypeId × Value → H} {W : World} {a : Option Addr} {len cap : Nat} {d : DataW H} {p : List MemPlace}
    (h : ∃ fuel, DataW.trod enc Tryd.prog W 0 (fun _ => true) true fuel 28 (Value.slice a len cap).cells.toList = some (d, p)) : ∃ xs : List Int, IntsIn W a cap xs ∧ len = xs.length := by
  obtain ⟨fuel, hf⟩ := h
  rcases Go.ChangeShapes.open_ints Tryd.underlying28 Tryd.underlying3 cells3 hf with ⟨hcs, _⟩ | ⟨x, l, c, zs, hcs, _, hl, hm, hz, _, hcell, hwz⟩
  · simp [Value.cells] at hcs
    obtain ⟨rfl, rfl, rfl⟩ := hcs
    exact ⟨[], ⟨fun e => absurd rfl e, Nat.le_refl _, by decide, fun _ => rfl⟩, rfl⟩
  · simp [Value.cells] at hcs
    obtain ⟨rfl, rfl, rfl⟩ := hcs
    have hzl : zs.length = cap := by simpa using hz
    have hlen : (zs.take len).length = len := by rw [List.length_take]; omega
    refine ⟨zs.take len, ⟨fun hne => ?_, by rw [hlen]; exact hl, hm, fun e => (by cases e)⟩, hlen.symm⟩
    have hc0 := hcell 0 (by omega)
    have hx := addr_flat (spot_none hc0)
    generalize x.block = b at *
    generalize x.off = off at *
    subst hx
    refine ⟨b, off, rfl, ?_, fun j hj => ?_⟩
    · obtain ⟨o, ho, _⟩ := cells_of_cell hc0
      exact (Array.getElem?_eq_some_iff.1 ho).1
    · rw [hlen] at hj
      have := hcell j (by omega)
      rw [Addr.add_lit] at this
      rw [this]; simp [List.getElem?_take, hj, List.getD_eq_getElem?_getD]
set_option maxRecDepth 100000 in
set_option maxHeartbeats 2000000 in
theorem list_any (a : Option Addr) (cap : Nat) (xs : List Int) (w : World) (h : IntsIn w a cap xs) :
    Calls Tryd.prog 36 #[.slice a xs.length cap] w fun e w' => ∃ v, e = .returned v ∧ QRow w' w.heap.size 3 1 v (min xs.length 20) (ivI (fun j => xs[j]?.getD 0) (min xs.length 20)) ∧ Below w.heap.size w w' := by
  obtain ⟨i0, hi, hz0, hz1, hz2⟩ := info_parts info3
  have HS := Lib.hid ((h.g.take (Nat.min_le_left xs.length 20)).src)
  have HONE := Lib.hid (ivI_one (fun j => xs[j]?.getD 0) (min xs.length 20))
  have hf := h.fits
  have hcm := h.capm
  have hnil := h.nil
  unfold maxLen at hcm
  obtain ⟨k, hk⟩ : ∃ k, Hid (k = min xs.length 20) := ⟨_, rfl⟩
  rw [← hk.out] at HS HONE ⊢
  have hkl : k ≤ xs.length := by rw [hk.out]; exact Nat.min_le_left _ _
  have hkm : k ≤ 20 := by rw [hk.out]; exact Nat.min_le_right _ _
  have hmin : min (xs.length : Int) 20 = (k : Int) := by rw [hk.out]; omega
  generalize xs.length = len at *
  clear h
  cases a with
  | none =>
    have hc0 : cap = 0 := hnil rfl
    have hk0 : k = 0 := by omega
    clear hnil
    go_enter Tryd.func36, Tryd.ntmps36
    go_wp2
    go_ret
    refine ⟨_, rfl, ?_, Below.refl _ _⟩
    rw [hk0]
    exact QRow.nil _ _ _ _
  | some ad =>
    clear hnil
    go_enter Tryd.func36, Tryd.ntmps36
    go_wp2_with (at_builtin; go_must (refine wpList_append_qq _ rfl (.tmp 4) (.tmp 9) 28 rfl w.heap.size 3 i0 (.int .i64 0) 1 8 Tryd.underlying28 hi hz0 hz1 hz2 rfl (by decide) _ 0 [] rfl (QRow.nil _ _ _ _) (some ad) k cap (ivI (fun j => xs[j]?.getD 0) k) rfl HS.out HONE.out (by unfold maxLen; omega) (by omega) (Nat.le_refl _) ?_); intro v6 w6 hq6 hg6 ho6; have HB6 : Hid (Below w.heap.size w w6) := Below.grown (Below.refl _ w) hg6 (Nat.le_refl _) (fun kk e => by cases e); have HQ6 : Hid (QRow w6 w.heap.size 3 1 v6 k (ivI (fun j => xs[j]?.getD 0) k)) := (by rw [Nat.zero_add, List.nil_append] at hq6; exact hq6); clear hq6 hg6 ho6)
    go_ret
    exact ⟨v6, rfl, HQ6.out, HB6.out⟩
/-- how often a list rises in its first steps -/
def rs (f : Nat → Int) : Nat → Nat
  | 0 => 0
  | j + 1 => rs f j + if f j < f (j + 1) then 1 else 0
theorem rs_le (f : Nat → Int) : ∀ j, rs f j ≤ j
  | 0 => Nat.le_refl _
  | j + 1 => by have := rs_le f j; unfold rs; split <;> omega
/-- an ascent list -/
def AscP (f : Nat → Int) (m : Nat) : Prop := 1 ≤ m ∧ f 0 = 0 ∧ ∀ j, j + 1 < m → 0 ≤ f (j + 1) ∧ f (j + 1) ≤ (rs f j : Int) + 1
set_option maxRecDepth 100000 in
set_option maxHeartbeats 4000000 in
theorem rAsc_any (p : Option Addr) (m c : Nat) (f : Nat → Int) (w : World) (hm : m ≤ 20) (hS : SrcI w p m f) :
    Calls Tryd.prog 38 #[.slice p m c] w fun e w' => BoolP (AscP f m) e ∧ ∃ z, w' = w.drewN z := by
  by_cases h0 : m = 0
  · have HNO : Hid (¬ AscP f m) := fun h => by have := h.1; omega
    subst h0
    clear hS
    go_enter Tryd.func38, Tryd.ntmps38
    go_wp2
    go_ret
    exact ⟨BoolP.no HNO.out, 0, rfl⟩
  · obtain ⟨b, o, rfl, hb, hc⟩ := hS h0
    have HC := Lib.hid hc
    have c0 := hc 0 (by omega)
    rw [Nat.add_zero] at c0
    have q0 : ((m : Int) == 0) = false := by rw [beq_eq_false_iff_ne]; omega
    have q00 : (0 : Int) < (m : Int) := by omega
    obtain ⟨f0, hf0⟩ : ∃ f0, Hid (f0 = f 0) := ⟨_, rfl⟩
    rw [← hf0.out] at c0
    clear hc hS
    by_cases h1 : f0 = 0
    · rw [h1] at c0
      have HF0 : Hid (f 0 = 0) := by rw [← hf0.out]; exact h1
      clear h1
      go_enter Tryd.func38, Tryd.ntmps38
      go_upto_region 5 with (fail)
      go_loopw [3, 4] (fun s3 s4 wr => ∃ i : Nat, i + 1 ≤ m ∧ s4 = .int .i64 ((i + 1 : Nat) : Int) ∧ s3 = .int .i64 ((rs f i : Nat) : Int) ∧ Hid (∀ j, j < i → 0 ≤ f (j + 1) ∧ f (j + 1) ≤ (rs f j : Int) + 1) ∧ ∃ z, Hid (wr = w.drewN z)) (fun _ s4 _ => m - (intOf s4).toNat)
      case atStart => exact ⟨0, by omega, rfl, rfl, (fun j hj => by omega), 0, rfl⟩
      case round =>
        obtain ⟨i, hi, rfl, rfl, hp, z, hw⟩ := hrel
        rw [hw.out]
        clear hw c0
        have hri := rs_le f i
        by_cases him : i + 1 < m
        · have g1 : ((i + 1 : Nat) : Int) < (m : Int) := by omega
          have g2 : (0 : Int) ≤ ((i + 1 : Nat) : Int) := by omega
          have c1 := HC.out (i + 1) him
          have c2 := HC.out i (by omega)
          have hsub : ((i + 1 : Nat) : Int) - 1 = (i : Int) := by omega
          have g3 : (i : Int) < (m : Int) := by omega
          have g4 : (0 : Int) ≤ (i : Int) := by omega
          have HRS : Hid (rs f (i + 1) = rs f i + if f i < f (i + 1) then 1 else 0) := rfl
          have HN : Hid ((0 ≤ f (i + 1) ∧ f (i + 1) ≤ (rs f i : Int) + 1) → ∀ j, j < i + 1 → 0 ≤ f (j + 1) ∧ f (j + 1) ≤ (rs f j : Int) + 1) := fun h j hj => by
            by_cases e : j = i
            · subst e; exact h
            · exact hp.out j (by omega)
          have HX : Hid (¬ (0 ≤ f (i + 1) ∧ f (i + 1) ≤ (rs f i : Int) + 1) → ¬ AscP f m) := fun h h2 => h (h2.2.2 i him)
          generalize f (i + 1) = x at *
          generalize f i = y at *
          obtain ⟨i1, hi1⟩ : ∃ i1 : Nat, i + 1 = i1 := ⟨_, rfl⟩
          rw [hi1] at g1 g2 hsub c1 HRS him ⊢
          by_cases h2 : x < 0
          · have HXX := Lib.hid (HX.out (fun h => by omega))
            clear HN HX HRS
            go_wp2
            go_ret
            exact ⟨BoolP.no HXX.out, z, rfl⟩
          · have q2 : decide (x < 0) = false := by simpa using h2
            by_cases h3 : (rs f i : Int) + 1 < x
            · have HXX := Lib.hid (HX.out (fun h => by omega))
              clear HN HX HRS
              generalize rs f i = ri at *
              go_wp2
              go_ret
              exact ⟨BoolP.no HXX.out, z, rfl⟩
            · have HNN := Lib.hid (HN.out (by omega))
              clear HN HX
              rw [hi1] at HNN
              generalize hgi : rs f i = ri at *
              by_cases h4 : y < x
              · have HR2 : Hid (rs f i1 = ri + 1) := by rw [HRS.out, if_pos h4]; rfl
                clear HRS
                go_wp2
                go_quiet (fail)
                go_wp2
                exact ⟨⟨i1, by omega, int_eq (by omega), by rw [HR2.out]; exact int_eq (by omega), HNN, _, rfl⟩, by simp [intOf]; omega⟩
              · have HR2 : Hid (rs f i1 = ri) := by rw [HRS.out, if_neg h4]; rfl
                clear HRS
                go_wp2
                go_quiet (fail)
                go_wp2
                exact ⟨⟨i1, by omega, int_eq (by omega), by rw [HR2.out], HNN, _, rfl⟩, by simp [intOf]; omega⟩
        · have g1 : ¬ ((i + 1 : Nat) : Int) < (m : Int) := by omega
          have HY : Hid (AscP f m) := ⟨by omega, HF0.out, fun j hj => hp.out j (by omega)⟩
          obtain ⟨i1, hi1⟩ : ∃ i1 : Nat, i + 1 = i1 := ⟨_, rfl⟩
          rw [hi1] at g1 ⊢
          go_wp2
          go_ret
          exact ⟨BoolP.yes HY.out, z, rfl⟩
    · have q1 : (f0 != 0) = true := by rw [bne_iff_ne]; exact h1
      have HNO : Hid (¬ AscP f m) := fun h => by have := h.2.1; rw [← hf0.out] at this; exact h1 this
      clear h1
      go_enter Tryd.func38, Tryd.ntmps38
      go_wp2
      go_ret
      exact ⟨BoolP.no HNO.out, 0, rfl⟩
end Go.Proofs.YtgpijajgaclhfaaDoor
namespace Go.Proofs.YtgpijajgaclhfaaDoor
open Go.RowKit Go.Shelf

set_option maxRecDepth 100000 in
set_option maxHeartbeats 4000000 in
theorem pAsc_any (p : Option Addr) (m c : Nat) (f : Nat → Int) (w : World) (hm : m ≤ 20) (hmc : m ≤ c) (hcm : c ≤ maxLen) (hS : SrcI w p m f) :
    Calls Tryd.prog 37 #[.slice p m c] w fun e w' => BoolP (AscP f m) e ∧ w' = w := by
  by_cases h0 : m = 0
  · have HNO : Hid (¬ AscP f m) := fun h => by have := h.1; omega
    subst h0
    clear hS
    go_enter Tryd.func37, Tryd.ntmps37
    go_wp2
    go_ret
    exact ⟨BoolP.no HNO.out, rfl⟩
  · obtain ⟨b, o, rfl, hb, hc⟩ := hS h0
    have HC := Lib.hid hc
    have c0 := hc 0 (by omega)
    rw [Nat.add_zero] at c0
    have q0 : ((m : Int) == 0) = false := by rw [beq_eq_false_iff_ne]; omega
    have q00 : (0 : Int) < (m : Int) := by omega
    obtain ⟨f0, hf0⟩ : ∃ f0, Hid (f0 = f 0) := ⟨_, rfl⟩
    rw [← hf0.out] at c0
    clear hc hS
    by_cases h1 : f0 = 0
    · rw [h1] at c0
      have HF0 : Hid (f 0 = 0) := by rw [← hf0.out]; exact h1
      clear h1
      go_enter Tryd.func37, Tryd.ntmps37
      by_cases hm1 : m = 1
      · have HY : Hid (AscP f m) := ⟨by omega, HF0.out, fun j hj => by omega⟩
        subst hm1
        by_cases hc1 : c = 1
        · subst hc1
          go_upto_region 5 with (fail)
          go_loopw [18] (fun s18 wr => s18 = .int .i64 0 ∧ Hid (wr = w)) (fun s18 _ => 0)
          case atStart => exact ⟨rfl, rfl⟩
          case round =>
            obtain ⟨rfl, hw⟩ := hrel
            rw [hw.out]
            go_wp2
            go_ret
            exact ⟨BoolP.yes HY.out, rfl⟩
        · have g9 : ¬ (1 = c) := fun h => hc1 h.symm
          go_upto_region 5 with (fail)
          go_loopw [18] (fun s18 wr => s18 = .int .i64 0 ∧ Hid (wr = w)) (fun s18 _ => 0)
          case atStart => exact ⟨rfl, rfl⟩
          case round =>
            obtain ⟨rfl, hw⟩ := hrel
            rw [hw.out]
            go_wp2
            go_ret
            exact ⟨BoolP.yes HY.out, rfl⟩
      · have g9 : ¬ (1 = c) := by omega
        have g10 : (1 : Int) ≤ (m : Int) := by omega
        have HC2 : Hid (∀ j, j + 1 < m → w.cell? ⟨b, o + 1 + j, none⟩ = some (.int .i64 (f (j + 1)))) := fun j hj => by
          have := HC.out (j + 1) hj
          rw [show o + (j + 1) = o + 1 + j by omega] at this
          exact this
        go_upto_region 5 with (fail)
        obtain ⟨m1, hm1e⟩ : ∃ m1, m - 1 = m1 := ⟨_, rfl⟩
        rw [hm1e]
        have HMM : Hid (m = m1 + 1) := by unfold Hid; omega
        go_loopw [3, 18] (fun s3 s18 wr => ∃ i : Nat, i ≤ m1 ∧ s18 = .int .i64 (i : Int) ∧ s3 = .int .i64 ((rs f i : Nat) : Int) ∧ Hid (∀ j, j < i → 0 ≤ f (j + 1) ∧ f (j + 1) ≤ (rs f j : Int) + 1) ∧ Hid (wr = w)) (fun _ s18 _ => m1 - (intOf s18).toNat)
        case atStart => exact ⟨0, by omega, rfl, rfl, (fun j hj => by omega), rfl⟩
        case round =>
          obtain ⟨i, hi, rfl, rfl, hp, hw⟩ := hrel
          rw [hw.out]
          clear hw c0
          have hri := rs_le f i
          by_cases him : i < m1
          · have g1 : (i : Int) < (m1 : Int) := by omega
            have g2 : (0 : Int) ≤ (i : Int) := by omega
            have c1 := HC2.out i (by omega)
            have c2 := HC.out i (by omega)
            have g3 : (i : Int) < (m : Int) := by omega
            have HRS : Hid (rs f (i + 1) = rs f i + if f i < f (i + 1) then 1 else 0) := rfl
            have HN : Hid ((0 ≤ f (i + 1) ∧ f (i + 1) ≤ (rs f i : Int) + 1) → ∀ j, j < i + 1 → 0 ≤ f (j + 1) ∧ f (j + 1) ≤ (rs f j : Int) + 1) := fun h j hj => by
              by_cases e : j = i
              · subst e; exact h
              · exact hp.out j (by omega)
            have HX : Hid (¬ (0 ≤ f (i + 1) ∧ f (i + 1) ≤ (rs f i : Int) + 1) → ¬ AscP f m) := fun h h2 => h (h2.2.2 i (by omega))
            generalize f (i + 1) = x at *
            generalize f i = y at *
            by_cases h2 : x < 0
            · have HXX := Lib.hid (HX.out (fun h => by omega))
              clear HN HX HRS
              go_wp2
              go_ret
              exact ⟨BoolP.no HXX.out, rfl⟩
            · have q2 : decide (x < 0) = false := by simpa using h2
              by_cases h3 : (rs f i : Int) + 1 < x
              · have HXX := Lib.hid (HX.out (fun h => by omega))
                clear HN HX HRS
                generalize rs f i = ri at *
                go_wp2
                go_ret
                exact ⟨BoolP.no HXX.out, rfl⟩
              · have HNN := Lib.hid (HN.out (by omega))
                clear HN HX
                generalize hgi : rs f i = ri at *
                by_cases h4 : y < x
                · have HR2 : Hid (rs f (i + 1) = ri + 1) := by rw [HRS.out, if_pos h4]; rfl
                  clear HRS
                  go_wp2
                  exact ⟨⟨i + 1, by omega, int_eq (by omega), by rw [HR2.out]; exact int_eq (by omega), HNN, True.intro⟩, by simp [intOf]; omega⟩
                · have HR2 : Hid (rs f (i + 1) = ri) := by rw [HRS.out, if_neg h4]; rfl
                  clear HRS
                  go_wp2
                  refine ⟨⟨i + 1, by omega, int_eq (by omega), ?_, HNN, True.intro⟩, by simp [intOf]; omega⟩
                  rw [HR2.out]
          · have g1 : ¬ (i : Int) < (m1 : Int) := by omega
            have HY : Hid (AscP f m) := ⟨by omega, HF0.out, fun j hj => hp.out j (by omega)⟩
            go_wp2
            go_ret
            exact ⟨BoolP.yes HY.out, rfl⟩
    · have q1 : (f0 != 0) = true := by rw [bne_iff_ne]; exact h1
      have HNO : Hid (¬ AscP f m) := fun h => by have := h.2.1; rw [← hf0.out] at this; exact h1 this
      clear h1
      go_enter Tryd.func37, Tryd.ntmps37
      go_wp2
      go_ret
      exact ⟨BoolP.no HNO.out, rfl⟩
end Go.Proofs.YtgpijajgaclhfaaDoor
namespace Go.Proofs.YtgpijajgaclhfaaDoor
open Go.RowKit Go.Shelf

/-- the endings in a square of n by n, with how often each is in D -/
def gl (n : Nat) (D : List (Nat × Nat)) (J : Nat) : List ((Nat × Nat) × Nat) := (List.range J).map fun j => ((j / n, j % n), D.count (j / n, j % n))
theorem gl_succ (n : Nat) (D : List (Nat × Nat)) (J : Nat) : gl n D (J + 1) = gl n D J ++ [((J / n, J % n), D.count (J / n, J % n))] := by
  unfold gl; rw [List.range_succ, List.map_append]; rfl
theorem gl_nodup {n : Nat} (hn : 1 ≤ n) (D : List (Nat × Nat)) (J : Nat) : ((gl n D J).map (·.1)).Nodup := by
  unfold gl
  rw [List.map_map]
  unfold List.Nodup
  rw [List.pairwise_map]
  refine List.pairwise_lt_range.imp fun {a b} hab e => ?_
  simp only [Function.comp, Prod.mk.injEq] at e
  have h1 := Nat.div_add_mod a n
  have h2 := Nat.div_add_mod b n
  rw [e.1, e.2] at h1
  omega
theorem gl_mem {n J : Nat} {D : List (Nat × Nat)} {p : (Nat × Nat) × Nat} : p ∈ gl n D J ↔ ∃ j, j < J ∧ p = ((j / n, j % n), D.count (j / n, j % n)) := by
  unfold gl
  rw [List.mem_map]
  exact ⟨fun ⟨j, h1, h2⟩ => ⟨j, List.mem_range.1 h1, h2.symm⟩, fun ⟨j, h1, h2⟩ => ⟨j, List.mem_range.2 h1, h2.symm⟩⟩
theorem sq_at {n a b : Nat} (hb : b < n) : (a * n + b) / n = a ∧ (a * n + b) % n = b := by
  have h1 : (a * n + b) / n = a := by rw [Nat.mul_comm, Nat.mul_add_div (by omega), Nat.div_eq_of_lt hb]; rfl
  refine ⟨h1, ?_⟩
  rw [Nat.mul_comm, Nat.mul_add_mod]
  exact Nat.mod_eq_of_lt hb
theorem sq_lt {n a b : Nat} (ha : a < n) (hb : b < n) : a * n + b < n * n := by
  have h1 : (a + 1) * n ≤ n * n := Nat.mul_le_mul_right n ha
  rw [Nat.succ_mul] at h1
  omega
theorem gl_cnt {n : Nat} (hn : 1 ≤ n) {D : List (Nat × Nat)} (hD : ∀ e ∈ D, e.1 < n ∧ e.2 < n) : CntP (fun e => asFun (gl n D (n * n)) e) D := fun e => by
  have hnd := gl_nodup hn D (n * n)
  by_cases he : e ∈ D
  · obtain ⟨h1, h2⟩ := hD e he
    obtain ⟨q1, q2⟩ := sq_at (n := n) (a := e.1) h2
    have hm : (e, D.count e) ∈ gl n D (n * n) := gl_mem.2 ⟨e.1 * n + e.2, sq_lt h1 h2, by rw [q1, q2]⟩
    show (asFun (gl n D (n * n)) e).getD 0 = _
    rw [(asFun_mem2 hnd).2 hm]; rfl
  · show (asFun (gl n D (n * n)) e).getD 0 = _
    rw [List.count_eq_zero_of_not_mem he]
    cases h : asFun (gl n D (n * n)) e with
    | none => rfl
    | some b =>
      obtain ⟨j, _, h2⟩ := gl_mem.1 ((asFun_mem2 hnd).1 h)
      cases h2
      exact List.count_eq_zero_of_not_mem he
/-- what has been put into the next table -/
def part (n : Nat) (D : List (Nat × Nat)) (J x : Nat) : List (Nat × Nat) := (gl n D J).flatMap stC ++ ((nexts (J / n, J % n)).take x).flatMap fun e => List.replicate (D.count (J / n, J % n)) e
theorem part_zero (n : Nat) (D : List (Nat × Nat)) (J : Nat) : part n D J 0 = (gl n D J).flatMap stC := by unfold part; simp
theorem part_full (n : Nat) (D : List (Nat × Nat)) (J x : Nat) (hx : J % n + 2 ≤ x) : part n D J x = part n D (J + 1) 0 := by
  rw [part_zero, gl_succ, List.flatMap_append]
  unfold part
  have hl : (nexts (J / n, J % n)).length ≤ x := by unfold nexts; rw [List.length_map, List.length_range]; exact hx
  rw [List.take_of_length_le hl]
  simp [stC]
theorem part_none (n : Nat) (D : List (Nat × Nat)) (J x y : Nat) (h : D.count (J / n, J % n) = 0) : part n D J x = part n D J y := by
  unfold part
  rw [h]
  congr 1
  have : ∀ l : List (Nat × Nat), l.flatMap (fun e => List.replicate 0 e) = [] := fun l => by simp
  rw [this, this]
theorem part_next (n : Nat) (D : List (Nat × Nat)) (J x : Nat) (hx : x < J % n + 2) : part n D J (x + 1) = part n D J x ++ List.replicate (D.count (J / n, J % n)) (x, if J / n < x then J % n + 1 else J % n) := by
  unfold part
  have hl : x < (nexts (J / n, J % n)).length := by unfold nexts; rw [List.length_map, List.length_range]; exact hx
  rw [List.take_succ_eq_append_getElem hl, List.flatMap_append, List.append_assoc]
  congr 2
  have h : (nexts (J / n, J % n))[x]? = some (x, if J / n < x then J % n + 1 else J % n) := by
    unfold nexts
    rw [List.getElem?_map, List.getElem?_range hx]
    simp only [Option.map_some, Option.some.injEq]
    split <;> rfl
  have : (nexts (J / n, J % n))[x] = (x, if J / n < x then J % n + 1 else J % n) := (List.getElem?_eq_some_iff.1 h).2
  rw [this]; simp
theorem gl_len (n : Nat) (D : List (Nat × Nat)) (J : Nat) : ∀ d, ((gl n D J).flatMap stC).length ≤ ((gl n D (J + d)).flatMap stC).length
  | 0 => Nat.le_refl _
  | d + 1 => by
    have := gl_len n D J d
    rw [show J + (d + 1) = J + d + 1 by omega, gl_succ, List.flatMap_append, List.length_append]
    omega
theorem part_len {n J x : Nat} {D : List (Nat × Nat)} (hJ : J < n * n) (hx : x ≤ J % n + 2) : (part n D J x).length ≤ ((gl n D (n * n)).flatMap stC).length := by
  have h1 : (part n D J x).length ≤ (part n D J (J % n + 2)).length := by
    unfold part
    rw [List.length_append, List.length_append]
    have h2 : (nexts (J / n, J % n)).take (J % n + 2) = (nexts (J / n, J % n)).take x ++ ((nexts (J / n, J % n)).take (J % n + 2)).drop x := by
      have := (List.take_append_drop x ((nexts (J / n, J % n)).take (J % n + 2))).symm
      rw [List.take_take, Nat.min_eq_left hx] at this
      exact this
    rw [h2, List.flatMap_append, List.length_append]
    omega
  rw [part_full n D J _ (Nat.le_refl _), part_zero] at h1
  have h3 := gl_len n D (J + 1) (n * n - (J + 1))
  rw [show J + 1 + (n * n - (J + 1)) = n * n by omega] at h3
  omega
/-- a whole step -/
theorem gl_step {n k : Nat} (hk : k + 1 ≤ n) : ((gl n (ascE k) (n * n)).flatMap stC).Perm (ascE (k + 1)) :=
  step_perm (gl_cnt (by omega) fun e he => by have := ascE_mem k e he; omega) (gl_nodup (by omega) _ _) (fun _ => rfl) (List.Perm.refl _)
/-- the sum of a table's first cells -/
def smTo (T : Nat → Nat) : Nat → Nat
  | 0 => 0
  | j + 1 => smTo T j + T j
theorem smTo_mono (T : Nat → Nat) (j : Nat) : ∀ d, smTo T j ≤ smTo T (j + d)
  | 0 => Nat.le_refl _
  | d + 1 => by have := smTo_mono T j d; rw [show j + (d + 1) = j + d + 1 by omega]; show smTo T j ≤ smTo T (j + d) + T (j + d); omega
theorem smTo_gl (n : Nat) (D : List (Nat × Nat)) : ∀ J, smTo (fun j => D.count (j / n, j % n)) J = ((gl n D J).map (·.2)).sum
  | 0 => rfl
  | J + 1 => by
    rw [gl_succ, List.map_append, List.sum_append, ← smTo_gl n D J]
    show smTo _ J + _ = _
    simp
theorem smTo_all {n k : Nat} (hk : k + 1 ≤ n) : smTo (fun j => (ascE k).count (j / n, j % n)) (n * n) = (ascE k).length := by
  rw [smTo_gl, sum_ex]
  have hc := gl_cnt (n := n) (by omega) (D := ascE k) fun e he => by have := ascE_mem k e he; omega
  exact (hc.ex (gl_nodup (by omega) _ _) (fun _ => rfl)).length_eq.symm
/-- a row of int64 -/
def Row64 (W : World) (B n : Nat) (f : Nat → Nat) : Prop := ∃ vs, BoxN W B 2 vs ∧ vs.size = n ∧ ∀ j, j < n → vs[j]? = some (.int .i64 ((f j : Nat) : Int))
theorem Row64.lt {W : World} {B n : Nat} {f : Nat → Nat} (h : Row64 W B n f) : B < W.heap.size := h.elim fun _ h => h.1.lt
theorem Row64.cell {W : World} {B n : Nat} {f : Nat → Nat} (h : Row64 W B n f) {x : Nat} (hx : x < n) : W.cell? ⟨B, x, none⟩ = some (.int .i64 ((f x : Nat) : Int)) := by
  obtain ⟨vs, h1, h2, h3⟩ := h
  rw [h1.cell]; exact h3 x hx
theorem Row64.frozen {W : World} {B n : Nat} {f : Nat → Nat} (h : Row64 W B n f) (x : Nat) : W.frozen? ⟨B, x, none⟩ = false := by
  obtain ⟨vs, h1, _⟩ := h
  exact h1.frozen x
theorem Row64.alloc {W : World} {B n : Nat} {f : Nat → Nat} (h : Row64 W B n f) (o : Obj) : Row64 (W.alloc o) B n f := by
  obtain ⟨vs, h1, h2⟩ := h
  exact ⟨vs, h1.alloc o, h2⟩
theorem Row64.set {W : World} {B n : Nat} {f : Nat → Nat} (h : Row64 W B n f) {x : Nat} (_hx : x < n) (v : Nat) : Row64 (W.setCell ⟨B, x, none⟩ (.int .i64 (v : Int))) B n (fun j => if j = x then v else f j) := by
  obtain ⟨vs, h1, h2, h3⟩ := h
  refine ⟨_, h1.set x (.int .i64 (v : Int)), by simpa using h2, fun j hj => ?_⟩
  by_cases e : j = x
  · subst e; rw [Array.getElem?_setIfInBounds_self_of_lt (by omega)]; simp
  · rw [Array.getElem?_setIfInBounds_ne (Ne.symm e)]; simp only [if_neg e]; exact h3 j hj
theorem Row64.other {W : World} {B n : Nat} {f : Nat → Nat} (h : Row64 W B n f) {a : Addr} (hne : B ≠ a.block) (x : Value) : Row64 (W.setCell a x) B n f := by
  obtain ⟨vs, h1, h2⟩ := h
  exact ⟨vs, h1.other hne x, h2⟩
theorem Row64.congr {W : World} {B n : Nat} {f g : Nat → Nat} (h : Row64 W B n f) (e : ∀ j, j < n → f j = g j) : Row64 W B n g := by
  obtain ⟨vs, h1, h2, h3⟩ := h
  exact ⟨vs, h1, h2, fun j hj => by rw [h3 j hj, e j hj]⟩
theorem under98 : Tryd.prog.underlying 98 = some (.slice 2) := by kernel_rfl
theorem make_98 (n : Nat) (hn : n ≤ 300) : ∃ vs : Array Value, vs.size = n ∧ (∀ j, j < n → vs[j]? = some (.int .i64 ((0 : Nat) : Int))) ∧
    ∀ W, Sem.run Tryd.prog (Instr.makeSlice 98 (.int .i64 (n : Int)) (.int .i64 (n : Int))) W = .ok (.slice (some ⟨W.heap.size, 0, none⟩) n n) (W.alloc (.cells vs 2)) := by
  obtain ⟨i0, hi, hz0, hz1, hz2⟩ := info_parts info2
  refine ⟨madeCells #[.int .i64 0] n, size_madeCells _ _, fun j hj => ?_, fun W => ?_⟩
  · rw [← Array.getElem?_toList, toList_madeCells_one, List.getElem?_replicate, if_pos hj]; rfl
  · have := run_make (P := Tryd.prog) W 98 2 i0 _ under98 hi hz0 .i64 .i64 (n : Int) (n : Int) (by omega) (Int.le_refl _) (by rw [hz2]; omega) (by omega)
    rw [hz1, show (Value.int .i64 0).cells = #[.int .i64 0] from rfl] at this
    simpa using this
end Go.Proofs.YtgpijajgaclhfaaDoor
namespace Go.Proofs.YtgpijajgaclhfaaDoor
open Go.RowKit Go.Shelf

/-- a table of endings -/
def cntT (N : Nat) (E : List (Nat × Nat)) (j : Nat) : Nat := E.count (j / N, j % N)
theorem cntT_add {N : Nat} (hN : 0 < N) (E : List (Nat × Nat)) {a b c : Nat} (hb : b < N) (j : Nat) : cntT N (E ++ List.replicate c (a, b)) j = if j = a * N + b then cntT N E j + c else cntT N E j := by
  unfold cntT
  rw [List.count_append, List.count_replicate]
  obtain ⟨h1, h2⟩ := sq_at (n := N) (a := a) hb
  by_cases e : j = a * N + b
  · rw [if_pos e, e, h1, h2]; simp
  · rw [if_neg e]
    have : ((a, b) == (j / N, j % N)) = false := by
      rw [beq_eq_false_iff_ne]
      intro h
      simp only [Prod.mk.injEq] at h
      have := Nat.div_add_mod j N
      rw [← h.1, ← h.2] at this
      rw [Nat.mul_comm] at this
      exact e this.symm
    rw [this]; simp
set_option maxRecDepth 100000 in
set_option maxHeartbeats 8000000 in
theorem rAscents_any (n : Nat) (w : World) (hn1 : 1 ≤ n) (hn : n ≤ 14) :
    Calls Tryd.prog 39 #[.int .i64 (n : Int)] w fun e w' => e = .returned (.int .i64 ((ascE (n - 1)).length : Nat)) ∧ Below w.heap.size w w' := by
  obtain ⟨N, hN⟩ : ∃ N, Hid (N = n + 1) := ⟨_, rfl⟩
  have hNn : (n : Int) + 1 = (N : Int) := by rw [hN.out]; omega
  have hN15 : N ≤ 15 := by rw [hN.out]; omega
  have hN2 : 2 ≤ N := by rw [hN.out]; omega
  have HNN : Hid (N = n + 1) := hN
  obtain ⟨M, hM⟩ : ∃ M, Hid (M = N * N) := ⟨_, rfl⟩
  have hMi : (N : Int) * (N : Int) = (M : Int) := by rw [hM.out]; simp
  have hM300 : M ≤ 225 := by rw [hM.out]; exact Nat.mul_le_mul hN15 hN15
  have hM1 : 1 ≤ M := by rw [hM.out]; exact Nat.mul_pos (by omega) (by omega)
  obtain ⟨vs, hv1, hv2, hmk⟩ := make_98 M (by omega)
  have HVS : Hid (vs.size = M ∧ ∀ j, j < M → vs[j]? = some (.int .i64 ((0 : Nat) : Int))) := ⟨hv1, hv2⟩
  have HMK := Lib.hid hmk
  clear hv1 hv2 hN
  go_enter Tryd.func39, Tryd.ntmps39
  have HR0 : Hid (Row64 (w.alloc (.cells vs 2)) w.heap.size M (fun _ => 0)) := ⟨vs, BoxN.new rfl, HVS.out.1, HVS.out.2⟩
  have HB0 : Hid (Below w.heap.size w (w.alloc (.cells vs 2))) := (Below.refl _ _).alloc (Nat.le_refl _) _
  go_upto_region 2 with (fail)
  obtain ⟨b0, hb0⟩ : ∃ b0, Hid (b0 = w.heap.size) := ⟨_, rfl⟩
  rw [← hb0.out] at HR0
  simp only [← hb0.out]
  have hbw : w.heap.size ≤ b0 := Nat.le_of_eq hb0.out.symm
  generalize w.alloc (.cells vs 2) = X at *
  clear hmk
  have g0 : (0 : Int) < (M : Int) := by omega
  have f0 := HR0.out.frozen 0
  have c0 := HR0.out.cell (x := 0) (by omega)
  have HR1 : Hid (Row64 (X.setCell ⟨b0, 0, none⟩ (.int .i64 ((1 : Nat) : Int))) b0 M (cntT N (ascE 0))) := (HR0.out.set (x := 0) (by omega) 1).congr fun j hj => by
    unfold cntT ascE
    by_cases e : j = 0
    · subst e; simp
    · rw [if_neg e]
      have : ((0, 0) == (j / N, j % N)) = false := by
        rw [beq_eq_false_iff_ne]
        intro h
        simp only [Prod.mk.injEq] at h
        have := Nat.div_add_mod j N
        rw [← h.1, ← h.2] at this
        omega
      rw [List.count_cons, this]; simp
  have HB1 := Lib.hid (HB0.out.setCell (p := ⟨b0, 0, none⟩) hbw (.int .i64 ((1 : Nat) : Int)))
  have HR1 : Hid (Row64 (X.setCell ⟨b0, 0, none⟩ (.int .i64 1)) b0 M (cntT N (ascE 0))) := HR1
  have HB1 : Hid (Below w.heap.size w (X.setCell ⟨b0, 0, none⟩ (.int .i64 1))) := HB1
  go_upto_region 4 with (fail)
  generalize X.setCell ⟨b0, 0, none⟩ (.int .i64 1) = Y at *
  clear f0 c0 HR0 HB0
  go_loopw [3, 4] (fun s3 s4 wr => ∃ (k B : Nat), k + 1 ≤ n ∧ s4 = .int .i64 ((k + 1 : Nat) : Int) ∧ s3 = .slice (some ⟨B, 0, none⟩) M M ∧ w.heap.size ≤ B ∧ Hid (Row64 wr B M (cntT N (ascE k))) ∧ Hid (Below w.heap.size w wr)) (fun _ s4 _ => n - (intOf s4).toNat)
  case atStart => exact ⟨0, b0, by omega, rfl, rfl, hbw, HR1, HB1⟩
  case round =>
    obtain ⟨k, B, hk, rfl, rfl, hBw, hR, hB⟩ := hrel
    clear HR1 HB1
    have hsw : w.heap.size ≤ wr.heap.size := hB.out.size
    have HSM : Hid ((ascE k).length ≤ 1946195068359375) := ascE_small (by omega)
    by_cases hkn : k + 1 < n
    · have g1 : ((k + 1 : Nat) : Int) < (n : Int) := by omega
      have HSM2 : Hid ((ascE (k + 1)).length ≤ 1946195068359375) := ascE_small (by omega)
      have HST : Hid (((gl n (ascE k) (n * n)).flatMap stC).Perm (ascE (k + 1))) := gl_step (by omega)
      have hmk := HMK.out wr
      have HQ0 : Hid (Row64 (wr.alloc (.cells vs 2)) wr.heap.size M (fun _ => 0)) := ⟨vs, BoxN.new rfl, HVS.out.1, HVS.out.2⟩
      have HR2 := Lib.hid (hR.out.alloc (.cells vs 2))
      have HB2 := Lib.hid (hB.out.alloc hsw (.cells vs 2))
      have hBlt := hR.out.lt
      obtain ⟨k1, hk1⟩ : ∃ k1 : Nat, k + 1 = k1 := ⟨_, rfl⟩
      have HK1 := Lib.hid hk1
      rw [hk1] at g1 ⊢
      clear hk1
      obtain ⟨wo, hwo⟩ : ∃ wo, Hid (wo = wr) := ⟨_, rfl⟩
      rw [← hwo.out] at hB hR HQ0 HR2 HB2 hsw hBlt hmk ⊢
      clear hwo
      go_upto_region 8 with (fail)
      obtain ⟨b1, hb1⟩ : ∃ b1, Hid (b1 = wo.heap.size) := ⟨_, rfl⟩
      rw [← hb1.out] at HQ0
      simp only [← hb1.out]
      have hne : B ≠ b1 := by have := hb1.out; omega
      have hb1w : w.heap.size ≤ b1 := by have := hb1.out; omega
      generalize wo.alloc (.cells vs 2) = Z at *
      clear hmk hR hB
      obtain ⟨D, hD⟩ : ∃ D, Hid (D = ascE k) := ⟨_, rfl⟩
      rw [← hD.out] at HR2 HST HSM
      have HPL : Hid (∀ J x, J < n * n → x ≤ J % n + 2 → (part n D J x).length ≤ 1946195068359375) := fun J x hJ hx => by
        have := part_len (D := D) hJ hx
        have h2 := HST.out.length_eq
        have h3 := HSM2.out
        omega
      have HP0 : Hid (Row64 Z b1 M (cntT N (part n D 0 0))) := HQ0.out.congr fun j _ => by
        rw [part_zero]; unfold cntT gl; simp
      go_loopw [6] (fun s6 wr => ∃ a : Nat, a ≤ n ∧ s6 = .int .i64 (a : Int) ∧ Hid (Row64 wr B M (cntT N D)) ∧ Hid (Row64 wr b1 M (cntT N (part n D (a * n) 0))) ∧ Hid (Below w.heap.size w wr)) (fun s6 _ => n - (intOf s6).toNat)
      case atStart => exact ⟨0, by omega, rfl, HR2, by rw [Nat.zero_mul]; exact HP0, HB2⟩
      case round =>
        obtain ⟨a, ha, rfl, hR, hQ, hB⟩ := hrel
        clear HR2 HP0 HB2 HQ0
        by_cases han : a < n
        · have g2 : (a : Int) < (n : Int) := by omega
          have haN : a * N ≤ 210 := Nat.mul_le_mul (show a ≤ 14 by omega) hN15
          have haNi : (a : Int) * (N : Int) = ((a * N : Nat) : Int) := by simp
          obtain ⟨aN, hAN⟩ : ∃ aN, Hid (aN = a * N) := ⟨_, rfl⟩
          rw [← hAN.out] at haN haNi
          go_upto_region 11 with (fail)
          go_loopw [7] (fun s7 wr => ∃ b : Nat, b ≤ n ∧ s7 = .int .i64 (b : Int) ∧ Hid (Row64 wr B M (cntT N D)) ∧ Hid (Row64 wr b1 M (cntT N (part n D (a * n + b) 0))) ∧ Hid (Below w.heap.size w wr)) (fun s7 _ => n - (intOf s7).toNat)
          case atStart => exact ⟨0, by omega, rfl, hR, by rw [Nat.add_zero]; exact hQ, hB⟩
          case round =>
            clear hR hQ hB
            obtain ⟨b, hb, rfl, hR, hQ, hB⟩ := hrel
            by_cases hbn : b < n
            · have g3 : (b : Int) < (n : Int) := by omega
              have hidx : aN + b < M := by
                rw [hAN.out, hM.out]
                exact sq_lt (by have := HNN.out; omega) (by have := HNN.out; omega)
              have k1 := hR.out.cell hidx
              have hcv : Hid (cntT N D (aN + b) = D.count (a, b)) := by
                unfold Hid cntT
                obtain ⟨h1, h2⟩ := sq_at (n := N) (a := a) (b := b) (by have := HNN.out; omega)
                rw [hAN.out, h1, h2]
              have hJ : Hid ((a * n + b) / n = a ∧ (a * n + b) % n = b) := sq_at hbn
              have hJlt : Hid (a * n + b < n * n) := sq_lt han hbn
              obtain ⟨J, hJe⟩ : ∃ J, Hid (J = a * n + b) := ⟨_, rfl⟩
              rw [← hJe.out] at hJ hJlt hQ
              have HSX : Hid (∀ x, x < b + 2 → part n D J (x + 1) = part n D J x ++ List.replicate (D.count (a, b)) (x, if a < x then b + 1 else b)) := fun x hx => by
                have := part_next n D J x (by rw [hJ.out.2]; exact hx)
                rw [hJ.out.1, hJ.out.2] at this
                exact this
              have HFX : Hid (part n D J (b + 2) = part n D (a * n + (b + 1)) 0) := by
                have := part_full n D J (b + 2) (by rw [hJ.out.2]; exact Nat.le_refl _)
                rw [hJe.out, Nat.add_assoc] at this
                rw [hJe.out]; exact this
              have HZX : Hid (D.count (a, b) = 0 → part n D J 0 = part n D (a * n + (b + 1)) 0) := fun h => by
                rw [← HFX.out]
                exact part_none n D J 0 (b + 2) (by rw [hJ.out.1, hJ.out.2]; exact h)
              have HLX : Hid (∀ x, x ≤ b + 2 → (part n D J x).length ≤ 1946195068359375) := fun x hx => HPL.out J x hJlt.out (by rw [hJ.out.2]; exact hx)
              rw [hcv.out] at k1
              have hcs : D.count (a, b) ≤ 1946195068359375 := Nat.le_trans List.count_le_length HSM.out
              generalize D.count (a, b) = c at *
              clear hcv hJ hJlt hJe
              obtain ⟨ix, hix⟩ : ∃ ix : Nat, aN + b = ix := ⟨_, rfl⟩
              rw [hix] at k1 hidx
              have g4 : (aN : Int) + (b : Int) = (ix : Int) := by omega
              have g5 : (ix : Int) < (M : Int) := by omega
              have g6 : (0 : Int) ≤ (ix : Int) := by omega
              clear hix
              go_upto_region 15 with (fail)
              clear k1
              go_loopw [9] (fun s9 wr => ∃ x : Nat, x ≤ b + 2 ∧ (c = 0 → x = 0) ∧ s9 = .int .i64 (x : Int) ∧ Hid (Row64 wr B M (cntT N D)) ∧ Hid (Row64 wr b1 M (cntT N (part n D J x))) ∧ Hid (Below w.heap.size w wr)) (fun s9 _ => 20 - (intOf s9).toNat)
              case atStart => exact ⟨0, by omega, fun _ => rfl, rfl, hR, hQ, hB⟩
              case round =>
                clear hR hQ hB
                obtain ⟨x, hx, hcx, rfl, hR, hQ, hB⟩ := hrel
                by_cases hxb : x ≤ b + 1
                · have g7 : (x : Int) ≤ (b : Int) + 1 := by omega
                  by_cases hc0 : c = 0
                  · have hx0 := hcx hc0
                    subst hx0
                    have g8 : ¬ (0 : Int) < (c : Int) := by omega
                    have g9 : decide (0 < c) = false := by simp; omega
                    have HQN : Hid (Row64 wr b1 M (cntT N (part n D (a * n + (b + 1)) 0))) := by rw [← HZX.out hc0]; exact hQ
                    clear hcx
                    subst hc0
                    go_wp2
                    exact ⟨⟨b + 1, by omega, int_eq (by omega), hR, HQN, hB⟩, by simp [intOf]; omega⟩
                  · have g8 : (0 : Int) < (c : Int) := by omega
                    have g9 : decide (0 < c) = true := by simp; omega
                    have hxN : x * N ≤ 210 := Nat.mul_le_mul (show x ≤ 14 by omega) hN15
                    have hxNi : (x : Int) * (N : Int) = ((x * N : Nat) : Int) := by simp
                    have HXN : Hid (x * N = x * N) := rfl
                    obtain ⟨q, hq⟩ : ∃ q, Hid (q = if a < x then b + 1 else b) := ⟨_, rfl⟩
                    have hqn : q < N := by rw [hq.out]; have := HNN.out; split <;> omega
                    have hidx2 : x * N + q < M := by rw [hM.out]; exact sq_lt (by have := HNN.out; omega) hqn
                    have HNX := HSX.out x (by omega)
                    rw [← hq.out] at HNX
                    have hcell := hQ.out.cell hidx2
                    have hfro := hQ.out.frozen (x * N + q)
                    have HADD : Hid (∀ j, cntT N (part n D J (x + 1)) j = if j = x * N + q then cntT N (part n D J x) j + c else cntT N (part n D J x) j) := fun j => by rw [HNX]; exact cntT_add (by omega) _ hqn j
                    have hold : cntT N (part n D J x) (x * N + q) + c ≤ 1946195068359375 := by
                      have h1 := HADD.out (x * N + q)
                      rw [if_pos rfl] at h1
                      rw [← h1]
                      exact Nat.le_trans List.count_le_length (HLX.out (x + 1) (by omega))
                    have HSET := Lib.hid (hQ.out.set hidx2 (cntT N (part n D J x) (x * N + q) + c))
                    have HQ2 : Hid (Row64 (wr.setCell ⟨b1, x * N + q, none⟩ (.int .i64 ((cntT N (part n D J x) (x * N + q) + c : Nat) : Int))) b1 M (cntT N (part n D J (x + 1)))) := HSET.out.congr fun j _ => by
                      rw [HADD.out j]
                      by_cases e : j = x * N + q
                      · rw [if_pos e, if_pos e, e]
                      · rw [if_neg e, if_neg e]
                    have HR2 : Hid (Row64 (wr.setCell ⟨b1, x * N + q, none⟩ (.int .i64 ((cntT N (part n D J x) (x * N + q) + c : Nat) : Int))) B M (cntT N D)) := hR.out.other hne _
                    have HB2 := Lib.hid (hB.out.setCell (p := ⟨b1, x * N + q, none⟩) hb1w (.int .i64 ((cntT N (part n D J x) (x * N + q) + c : Nat) : Int)))
                    clear HSET HADD HNX HXN
                    generalize cntT N (part n D J x) (x * N + q) = old at *
                    obtain ⟨su, hsu⟩ : ∃ su : Nat, old + c = su := ⟨_, rfl⟩
                    rw [hsu] at HR2 HQ2 HB2 hold
                    have hsum : (old : Int) + (c : Int) = (su : Int) := by omega
                    clear hsu
                    generalize x * N = xN at *
                    obtain ⟨iy, hiy⟩ : ∃ iy : Nat, xN + q = iy := ⟨_, rfl⟩
                    rw [hiy] at HR2 HQ2 HB2 hidx2 hcell hfro
                    have g10 : (xN : Int) + (q : Int) = (iy : Int) := by omega
                    have g11 : (iy : Int) < (M : Int) := by omega
                    have g12 : (0 : Int) ≤ (iy : Int) := by omega
                    clear hiy
                    by_cases hax : a < x
                    · have g13 : (a : Int) < (x : Int) := by omega
                      have g14 : (b : Int) + 1 = (q : Int) := by rw [hq.out, if_pos hax]; omega
                      clear hq
                      go_wp2
                      exact ⟨⟨x + 1, by omega, fun h => by omega, int_eq (by omega), HR2, HQ2, HB2⟩, by simp [intOf]; omega⟩
                    · have g13 : ¬ (a : Int) < (x : Int) := by omega
                      have hqb : q = b := by rw [hq.out, if_neg hax]
                      clear hq
                      subst hqb
                      go_wp2
                      exact ⟨⟨x + 1, by omega, fun h => by omega, int_eq (by omega), HR2, HQ2, HB2⟩, by simp [intOf]; omega⟩
                · have g7 : ¬ (x : Int) ≤ (b : Int) + 1 := by omega
                  obtain rfl : x = b + 2 := by omega
                  have HQN : Hid (Row64 wr b1 M (cntT N (part n D (a * n + (b + 1)) 0))) := by rw [← HFX.out]; exact hQ
                  clear hQ HFX HZX HSX HLX
                  obtain ⟨x2, hx2⟩ : ∃ x2 : Nat, b + 2 = x2 := ⟨_, rfl⟩
                  rw [hx2] at g7 ⊢
                  go_wp2
                  exact ⟨⟨b + 1, by omega, int_eq (by omega), hR, HQN, hB⟩, by simp [intOf]; omega⟩
            · have g3 : ¬ (b : Int) < (n : Int) := by omega
              obtain rfl : b = n := by omega
              have HQN : Hid (Row64 wr b1 M (cntT N (part b D ((a + 1) * b) 0))) := by rw [Nat.succ_mul]; exact hQ
              go_wp2
              exact ⟨⟨a + 1, by omega, int_eq (by omega), hR, HQN, hB⟩, by simp [intOf]; omega⟩
        · have g2 : ¬ (a : Int) < (n : Int) := by omega
          obtain rfl : a = n := by omega
          have HQN : Hid (Row64 wr b1 M (cntT N (ascE k1))) := by
            refine hQ.out.congr fun j _ => ?_
            rw [part_zero]
            unfold cntT
            rw [← HK1.out]
            exact HST.out.count_eq _
          go_wp2
          exact ⟨⟨k1, b1, by omega, int_eq (by omega), rfl, hb1w, HQN, hB⟩, by simp [intOf]; omega⟩
    · have g1 : ¬ ((k + 1 : Nat) : Int) < (n : Int) := by omega
      have HKN : Hid (ascE (n - 1) = ascE k) := by unfold Hid; rw [show n - 1 = k by omega]
      obtain ⟨k1, hk1⟩ : ∃ k1 : Nat, k + 1 = k1 := ⟨_, rfl⟩
      rw [hk1] at g1 ⊢
      have HALL : Hid (smTo (cntT N (ascE k)) M = (ascE k).length) := by
        rw [hM.out]
        exact smTo_all (by have := HNN.out; omega)
      have HMO : Hid (∀ j, j ≤ M → smTo (cntT N (ascE k)) j ≤ 1946195068359375) := fun j hj => by
        have h1 := smTo_mono (cntT N (ascE k)) j (M - j)
        rw [show j + (M - j) = M by omega, HALL.out] at h1
        exact Nat.le_trans h1 HSM.out
      go_upto_region 24 with (fail)
      go_loopw [11, 12] (fun s11 s12 wq => ∃ j : Nat, j ≤ M ∧ s12 = .int .i64 (j : Int) ∧ s11 = .int .i64 ((smTo (cntT N (ascE k)) j : Nat) : Int) ∧ Hid (wq = wr)) (fun _ s12 _ => M - (intOf s12).toNat)
      case atStart => exact ⟨0, by omega, rfl, rfl, rfl⟩
      case round =>
        obtain ⟨j, hj, rfl, rfl, hw⟩ := hrel
        rw [hw.out]
        clear hw
        by_cases hjM : j < M
        · have g2 : (j : Int) < (M : Int) := by omega
          have g3 : (0 : Int) ≤ (j : Int) := by omega
          have c1 := hR.out.cell hjM
          have HSS : Hid (smTo (cntT N (ascE k)) (j + 1) = smTo (cntT N (ascE k)) j + cntT N (ascE k) j) := rfl
          have hb2 := HMO.out (j + 1) hjM
          rw [HSS.out] at hb2
          generalize smTo (cntT N (ascE k)) j = s at *
          generalize cntT N (ascE k) j = v at *
          go_wp2
          exact ⟨⟨j + 1, by omega, int_eq (by omega), by rw [HSS.out]; exact int_eq (by omega), True.intro⟩, by simp [intOf]; omega⟩
        · have g2 : ¬ (j : Int) < (M : Int) := by omega
          obtain rfl : j = M := by omega
          have hall := HALL.out
          rw [hall]
          clear hall
          go_wp2
          go_ret
          exact ⟨by rw [HKN.out]; rfl, hB.out⟩
end Go.Proofs.YtgpijajgaclhfaaDoor
namespace Go.Proofs.YtgpijajgaclhfaaDoor
open Go.RowKit Go.Shelf

/-- uint(z) % uint(m) -/
def um (z : Int) (m : Nat) : Nat := ((IntKind.u64.wrap z).tmod (m : Int)).toNat
theorem u64_nonneg (z : Int) : 0 ≤ IntKind.u64.wrap z := by rw [IntKind.wrap_u64]; omega
theorem um_eq (z : Int) (m : Nat) : (IntKind.u64.wrap z).tmod (m : Int) = ((um z m : Nat) : Int) := by
  unfold um
  have := Int.tmod_nonneg (m : Int) (u64_nonneg z)
  omega
theorem um_lt (z : Int) {m : Nat} (hm : 1 ≤ m) : um z m < m := by
  have h := um_eq z m
  rw [Int.tmod_eq_emod_of_nonneg (u64_nonneg z)] at h
  have := Int.emod_lt_of_pos (IntKind.u64.wrap z) (show (0 : Int) < (m : Int) by omega)
  omega
/-- a row of integers, one of which is written -/
theorem QRow.fits {W : World} {base : Nat} {e : TypeId} {size : Nat} {p : Option Addr} {m c : Nat} {xs : List Value} (h : QRow W base e size (.slice p m c) m xs) : m ≤ c ∧ c ≤ maxLen := by
  rcases h.2 with ⟨e, h0⟩ | ⟨g, o, cap, cur, e, _, _, h5, h6, _⟩
  · cases e; exact ⟨by omega, by decide⟩
  · cases e; exact ⟨h5, h6⟩
theorem QRow.put {W : World} {base : Nat} {g o m c k : Nat} {f : Nat → Int} (h : QRow W base 3 1 (.slice (some ⟨g, o, none⟩) m c) m (ivI f m)) (hk : k < m) (z : Int) :
    W.frozen? ⟨g, o + k, none⟩ = false ∧ QRow (W.setCell ⟨g, o + k, none⟩ (.int .i64 z)) base 3 1 (.slice (some ⟨g, o, none⟩) m c) m (ivI (fun j => if j = k then z else f j) m) := by
  rcases h.2 with ⟨e, _⟩ | ⟨g', o', cap, cur, e, h1, h2, h3, h4, h5, h6⟩
  · cases e
  · cases e
    have hb : BoxN W g 3 cur := h2
    refine ⟨hb.frozen _, by rw [ivI_len]; omega, .inr ⟨g, o, c, _, rfl, h1, hb.set (o + k) (.int .i64 z), h3, h4, by simpa using h5, fun j hj => ?_⟩⟩
    have hj' : j < m := by omega
    rw [ivI_get _ _ _ hj']
    by_cases e : j = k
    · subst e
      rw [Array.getElem?_setIfInBounds_self_of_lt (by omega)]; simp
    · rw [Array.getElem?_setIfInBounds_ne (by omega), if_neg e, h6 j hj, ivI_get _ _ _ hj']
set_option maxRecDepth 100000 in
set_option maxHeartbeats 8000000 in
theorem law8 (a : Option Addr) (cap : Nat) (xs : List Int) (n : Int) (w : World) (hP : IntsIn w a cap xs) (hT : Tab w) :
    Calls Tryd.prog 8 #[.slice a xs.length cap, .int .i64 n] w fun e w' => e = .returned (.bool true) ∧ Below w.heap.size w w' := by
  have HLS := Lib.hid (list_any a cap xs w hP)
  have HT := Lib.hid hT
  clear hP hT
  obtain ⟨m, hm⟩ : ∃ m, Hid (m = min xs.length 20) := ⟨_, rfl⟩
  rw [← hm.out] at HLS
  have hm20 : m ≤ 20 := by rw [hm.out]; exact Nat.min_le_right _ _
  obtain ⟨len, hlen⟩ : ∃ len, Hid (len = xs.length) := ⟨_, rfl⟩
  rw [← hlen.out] at HLS ⊢
  clear hm hlen
  go_enter Tryd.func8, Tryd.ntmps8
  go_upto_region 3 with (go_at_call 36; refine HLS.out.mono ?_; rintro e w1 ⟨v, rfl, hq1, hB1⟩; obtain ⟨p, c, rfl⟩ := hq1.isSlice; have HQ1 := Lib.hid hq1; have HB1 := Lib.hid hB1; clear hq1 hB1)
  have hfit := HQ1.out.fits
  have hfit1 := hfit.1
  have HF2 := Lib.hid hfit.2
  clear hfit HLS
  go_loopw [1, 6] (fun s1 s6 wr => ∃ (i : Nat) (f : Nat → Int) (nn : Int), i ≤ 2 ∧ s6 = .int .i64 (i : Int) ∧ s1 = .int .i64 nn ∧ Hid (QRow wr w.heap.size 3 1 (.slice p m c) m (ivI f m)) ∧ Hid (Below w.heap.size w wr)) (fun _ s6 _ => 2 - (intOf s6).toNat)
  case atStart => exact ⟨0, _, n, by omega, rfl, rfl, HQ1, HB1⟩
  case round =>
    obtain ⟨i, f, nn, hi, rfl, rfl, hQ, hB⟩ := hrel
    clear HQ1 HB1
    by_cases hi2 : i < 2
    · have g1 : (i : Int) < 2 := by omega
      obtain ⟨t, ht⟩ := boolOf (AscP f m)
      have H37 : Hid (Calls Tryd.prog 37 #[.slice p m c] wr fun e w' => e = .returned (.bool t) ∧ w' = wr) := (pAsc_any p m c f wr hm20 hfit1 HF2.out (hQ.out.srcI (ivI_get f m))).mono fun e w' h => ⟨h.1.dec (b := t) ht, h.2⟩
      have H38 : Hid (Calls Tryd.prog 38 #[.slice p m c] wr fun e w' => e = .returned (.bool t) ∧ ∃ z, w' = wr.drewN z) := (rAsc_any p m c f wr hm20 (hQ.out.srcI (ivI_get f m))).mono fun e w' h => ⟨h.1.dec (b := t) ht, h.2⟩
      clear ht
      have q1 : (t != t) = false := by simp
      have q2 : (!t == t) = false := by cases t <;> rfl
      obtain ⟨wo, hwo⟩ : ∃ wo, Hid (wo = wr) := ⟨_, rfl⟩
      rw [← hwo.out] at hQ hB H37 H38 ⊢
      clear hwo
      go_upto_region 7 with (first
        | (go_at_call 37; refine H37.out.mono ?_; rintro e w2 ⟨rfl, hw2⟩; replace hw2 := hw2.symm; subst hw2)
        | (go_at_call 38; refine H38.out.mono ?_; rintro e w3 ⟨rfl, z3, hw3⟩; subst hw3))
      clear H37 H38
      have HB2 := Lib.hid (below_dr hB.out z3)
      have HQ2 : Hid (QRow (wo.drewN z3) w.heap.size 3 1 (.slice p m c) m (ivI f m)) := hQ.out
      clear hQ hB
      generalize wo.drewN z3 = X at *
      have HAS := Lib.hid (Ascents_any nn X)
      have key : Hid (∃ (kk : Int) (ee : Int), (Calls Tryd.prog 33 #[.int .i64 nn] X fun e w' => e = .returned (.tuple #[.int .i64 kk, .int .i64 ee]) ∧ Below X.heap.size X w') ∧ (((nn < 1 ∨ 14 < nn) ∧ kk = 0 ∧ ee = 1) ∨ (1 ≤ nn ∧ nn ≤ 14 ∧ ee = 0 ∧ ∀ W, Calls Tryd.prog 39 #[.int .i64 nn] W fun e w' => e = .returned (.int .i64 kk) ∧ Below W.heap.size W w'))) := by
        by_cases hbad : nn < 1 ∨ 14 < nn
        · refine ⟨0, 1, HAS.out.mono ?_, .inl ⟨hbad, rfl, rfl⟩⟩
          rintro e w' ⟨⟨rfl, _⟩ | ⟨k, h1, h2, rfl⟩, hB⟩
          · exact ⟨rfl, hB⟩
          · omega
        · obtain ⟨k, hk⟩ := Int.eq_ofNat_of_zero_le (show 0 ≤ nn - 1 by omega)
          refine ⟨((ascE k).length : Nat), 0, HAS.out.mono ?_, .inr ⟨by omega, by omega, rfl, fun W => ?_⟩⟩
          · rintro e w' ⟨⟨rfl, _⟩ | ⟨k', h1, h2, rfl⟩, hB⟩
            · omega
            · obtain rfl : k' = k := by omega
              exact ⟨rfl, hB⟩
          · obtain rfl : nn = ((k + 1 : Nat) : Int) := by omega
            have := rAscents_any (k + 1) W (by omega) (by omega)
            rw [Nat.add_sub_cancel] at this
            exact this
      clear HAS
      obtain ⟨kk, ee, hc33, hcase⟩ := key.out
      have H33 := Lib.hid hc33
      clear hc33 key
      have HQU : Hid (∀ V, Below X.heap.size X V → QRow V w.heap.size 3 1 (.slice p m c) m (ivI f m)) := fun V hV => HQ2.out.below hV (fun kk e => (HQ2.out.lt kk e).2)
      rcases hcase with ⟨hbad, rfl, rfl⟩ | ⟨h1, h14, rfl, h39⟩
      · rcases hbad with hb1 | hb1
        · have q3 : nn < 1 := hb1
          go_upto_region 14 with (go_at_call 33; refine H33.out.mono ?_; rintro e V ⟨rfl, hB5⟩; have HBV := Lib.hid (HB2.out.trans (hB5.mono HB2.out.size)); have HQV := Lib.hid (HQU.out V hB5); clear hB5)
          clear H33
          have hsz : w.heap.size ≤ V.heap.size := HBV.out.size
          go_loopw [9] (fun s9 wr => ∃ (j : Nat) (f : Nat → Int), j ≤ m ∧ s9 = .int .i64 (j : Int) ∧ Hid (QRow wr w.heap.size 3 1 (.slice p m c) m (ivI f m)) ∧ Hid (Below w.heap.size w wr)) (fun s9 _ => m - (intOf s9).toNat)
          case atStart => exact ⟨0, f, by omega, rfl, HQV, HBV⟩
          case round =>
            clear HQV HBV
            obtain ⟨j, f, hj, rfl, hQ, hB⟩ := hrel
            by_cases hjm : j < m
            · have g3 : (j : Int) < (m : Int) := by omega
              have g4 : (0 : Int) ≤ (j : Int) := by omega
              obtain ⟨gb, o, cap2, e, hb1, hb2, _, _, hc, _⟩ := hQ.out.at (by omega)
              cases e
              have k1 := (hc j (by omega)).trans (ivI_get f m j hjm)
              have k2 := (hQ.out.put hjm ((um (f j) (j + 1) : Nat) : Int)).1
              have HPUT := Lib.hid (hQ.out.put hjm ((um (f j) (j + 1) : Nat) : Int)).2
              have HBP := Lib.hid (hB.out.setCell (p := ⟨gb, o + j, none⟩) hb1 (.int .i64 ((um (f j) (j + 1) : Nat) : Int)))
              have hlt := um_lt (f j) (m := j + 1) (by omega)
              obtain ⟨j1, hj1⟩ : ∃ j1 : Nat, j + 1 = j1 := ⟨_, rfl⟩
              have hjj : (j : Int) + 1 = (j1 : Int) := by omega
              have hj121 : j1 ≤ 21 := by omega
              rw [hj1] at hlt HPUT HBP
              have hum := um_eq (f j) j1
              have HNX : Hid (j1 ≤ m) := by unfold Hid; omega
              have HJ1 := Lib.hid hj1
              generalize f j = fj at *
              generalize um fj j1 = uu at *
              have HMEAS : Hid (m - j1 < m - j) := by unfold Hid; omega
              have z1 : IntKind.u64.wrap (j1 : Int) = (j1 : Int) := u64_same _ (by omega)
              have z3 : ((j1 : Int) == 0) = false := by rw [beq_eq_false_iff_ne]; omega
              have z2 : IntKind.i64.wrap (uu : Int) = (uu : Int) := IntWalk.i64_in _ (by omega)
              clear hc hQ hB
              go_wp2
              exact ⟨⟨j1, _, HNX.out, rfl, HPUT, HBP⟩, by simpa [intOf] using HMEAS.out⟩
            · have g3 : ¬ (j : Int) < (m : Int) := by omega
              have hum := um_eq nn 14
              have hlt := um_lt nn (m := 14) (by omega)
              have hum : (IntKind.u64.wrap nn).tmod 14 = ((um nn 14 : Nat) : Int) := hum
              generalize um nn 14 = uu at *
              have z2 : IntKind.i64.wrap (uu : Int) = (uu : Int) := IntWalk.i64_in _ (by omega)
              have HI2 : Hid (i + 1 ≤ 2) := by unfold Hid; omega
              have HME : Hid (2 - (i + 1) < 2 - i) := by unfold Hid; omega
              have hjj : (i : Int) + 1 = ((i + 1 : Nat) : Int) := by omega
              have HJJ := Lib.hid hjj
              clear hjj
              go_wp2
              exact ⟨⟨i + 1, f, _, HI2.out, int_eq HJJ.out, rfl, hQ, hB⟩, by rw [show intOf (Value.int .i64 ((i : Int) + 1)) = (i : Int) + 1 from rfl, HJJ.out]; exact HME.out⟩
        · have q3 : decide (nn < 1) = false := by simp; omega
          have q4 : 14 < nn := hb1
          go_upto_region 14 with (go_at_call 33; refine H33.out.mono ?_; rintro e V ⟨rfl, hB5⟩; have HBV := Lib.hid (HB2.out.trans (hB5.mono HB2.out.size)); have HQV := Lib.hid (HQU.out V hB5); clear hB5)
          clear H33
          have hsz : w.heap.size ≤ V.heap.size := HBV.out.size
          go_loopw [9] (fun s9 wr => ∃ (j : Nat) (f : Nat → Int), j ≤ m ∧ s9 = .int .i64 (j : Int) ∧ Hid (QRow wr w.heap.size 3 1 (.slice p m c) m (ivI f m)) ∧ Hid (Below w.heap.size w wr)) (fun s9 _ => m - (intOf s9).toNat)
          case atStart => exact ⟨0, f, by omega, rfl, HQV, HBV⟩
          case round =>
            clear HQV HBV
            obtain ⟨j, f, hj, rfl, hQ, hB⟩ := hrel
            by_cases hjm : j < m
            · have g3 : (j : Int) < (m : Int) := by omega
              have g4 : (0 : Int) ≤ (j : Int) := by omega
              obtain ⟨gb, o, cap2, e, hb1, hb2, _, _, hc, _⟩ := hQ.out.at (by omega)
              cases e
              have k1 := (hc j (by omega)).trans (ivI_get f m j hjm)
              have k2 := (hQ.out.put hjm ((um (f j) (j + 1) : Nat) : Int)).1
              have HPUT := Lib.hid (hQ.out.put hjm ((um (f j) (j + 1) : Nat) : Int)).2
              have HBP := Lib.hid (hB.out.setCell (p := ⟨gb, o + j, none⟩) hb1 (.int .i64 ((um (f j) (j + 1) : Nat) : Int)))
              have hlt := um_lt (f j) (m := j + 1) (by omega)
              obtain ⟨j1, hj1⟩ : ∃ j1 : Nat, j + 1 = j1 := ⟨_, rfl⟩
              have hjj : (j : Int) + 1 = (j1 : Int) := by omega
              have hj121 : j1 ≤ 21 := by omega
              rw [hj1] at hlt HPUT HBP
              have hum := um_eq (f j) j1
              have HNX : Hid (j1 ≤ m) := by unfold Hid; omega
              have HJ1 := Lib.hid hj1
              generalize f j = fj at *
              generalize um fj j1 = uu at *
              have HMEAS : Hid (m - j1 < m - j) := by unfold Hid; omega
              have z1 : IntKind.u64.wrap (j1 : Int) = (j1 : Int) := u64_same _ (by omega)
              have z3 : ((j1 : Int) == 0) = false := by rw [beq_eq_false_iff_ne]; omega
              have z2 : IntKind.i64.wrap (uu : Int) = (uu : Int) := IntWalk.i64_in _ (by omega)
              clear hc hQ hB
              go_wp2
              exact ⟨⟨j1, _, HNX.out, rfl, HPUT, HBP⟩, by simpa [intOf] using HMEAS.out⟩
            · have g3 : ¬ (j : Int) < (m : Int) := by omega
              have hum := um_eq nn 14
              have hlt := um_lt nn (m := 14) (by omega)
              have hum : (IntKind.u64.wrap nn).tmod 14 = ((um nn 14 : Nat) : Int) := hum
              generalize um nn 14 = uu at *
              have z2 : IntKind.i64.wrap (uu : Int) = (uu : Int) := IntWalk.i64_in _ (by omega)
              have HI2 : Hid (i + 1 ≤ 2) := by unfold Hid; omega
              have HME : Hid (2 - (i + 1) < 2 - i) := by unfold Hid; omega
              have hjj : (i : Int) + 1 = ((i + 1 : Nat) : Int) := by omega
              have HJJ := Lib.hid hjj
              clear hjj
              go_wp2
              exact ⟨⟨i + 1, f, _, HI2.out, int_eq HJJ.out, rfl, hQ, hB⟩, by rw [show intOf (Value.int .i64 ((i : Int) + 1)) = (i : Int) + 1 from rfl, HJJ.out]; exact HME.out⟩
      · have q3 : decide (nn < 1) = false := by simp; omega
        have q4 : ¬ 14 < nn := by omega
        have H39 := Lib.hid h39
        have q5 : (kk != kk) = false := by simp
        clear h39
        go_upto_region 14 with (first
          | (go_at_call 33; refine H33.out.mono ?_; rintro e w4 ⟨rfl, hB4⟩; have HB4 := Lib.hid hB4; clear hB4)
          | (go_at_call 39; refine (H39.out _).mono ?_; rintro e V ⟨rfl, hB5⟩; have HBV := Lib.hid (HB2.out.trans ((HB4.out.trans (hB5.mono HB4.out.size)).mono HB2.out.size)); have HQV := Lib.hid (HQU.out V (HB4.out.trans (hB5.mono HB4.out.size))); clear hB5))
        clear H33 H39
        have hsz : w.heap.size ≤ V.heap.size := HBV.out.size
        go_loopw [9] (fun s9 wr => ∃ (j : Nat) (f : Nat → Int), j ≤ m ∧ s9 = .int .i64 (j : Int) ∧ Hid (QRow wr w.heap.size 3 1 (.slice p m c) m (ivI f m)) ∧ Hid (Below w.heap.size w wr)) (fun s9 _ => m - (intOf s9).toNat)
        case atStart => exact ⟨0, f, by omega, rfl, HQV, HBV⟩
        case round =>
          clear HQV HBV
          obtain ⟨j, f, hj, rfl, hQ, hB⟩ := hrel
          by_cases hjm : j < m
          · have g3 : (j : Int) < (m : Int) := by omega
            have g4 : (0 : Int) ≤ (j : Int) := by omega
            obtain ⟨gb, o, cap2, e, hb1, hb2, _, _, hc, _⟩ := hQ.out.at (by omega)
            cases e
            have k1 := (hc j (by omega)).trans (ivI_get f m j hjm)
            have k2 := (hQ.out.put hjm ((um (f j) (j + 1) : Nat) : Int)).1
            have HPUT := Lib.hid (hQ.out.put hjm ((um (f j) (j + 1) : Nat) : Int)).2
            have HBP := Lib.hid (hB.out.setCell (p := ⟨gb, o + j, none⟩) hb1 (.int .i64 ((um (f j) (j + 1) : Nat) : Int)))
            have hlt := um_lt (f j) (m := j + 1) (by omega)
            obtain ⟨j1, hj1⟩ : ∃ j1 : Nat, j + 1 = j1 := ⟨_, rfl⟩
            have hjj : (j : Int) + 1 = (j1 : Int) := by omega
            have hj121 : j1 ≤ 21 := by omega
            rw [hj1] at hlt HPUT HBP
            have hum := um_eq (f j) j1
            have HNX : Hid (j1 ≤ m) := by unfold Hid; omega
            have HJ1 := Lib.hid hj1
            generalize f j = fj at *
            generalize um fj j1 = uu at *
            have HMEAS : Hid (m - j1 < m - j) := by unfold Hid; omega
            have z1 : IntKind.u64.wrap (j1 : Int) = (j1 : Int) := u64_same _ (by omega)
            have z3 : ((j1 : Int) == 0) = false := by rw [beq_eq_false_iff_ne]; omega
            have z2 : IntKind.i64.wrap (uu : Int) = (uu : Int) := IntWalk.i64_in _ (by omega)
            clear hc hQ hB
            go_wp2
            exact ⟨⟨j1, _, HNX.out, rfl, HPUT, HBP⟩, by simpa [intOf] using HMEAS.out⟩
          · have g3 : ¬ (j : Int) < (m : Int) := by omega
            have hum := um_eq nn 14
            have hlt := um_lt nn (m := 14) (by omega)
            have hum : (IntKind.u64.wrap nn).tmod 14 = ((um nn 14 : Nat) : Int) := hum
            generalize um nn 14 = uu at *
            have z2 : IntKind.i64.wrap (uu : Int) = (uu : Int) := IntWalk.i64_in _ (by omega)
            have HI2 : Hid (i + 1 ≤ 2) := by unfold Hid; omega
            have HME : Hid (2 - (i + 1) < 2 - i) := by unfold Hid; omega
            have hjj : (i : Int) + 1 = ((i + 1 : Nat) : Int) := by omega
            have HJJ := Lib.hid hjj
            clear hjj
            go_wp2
            exact ⟨⟨i + 1, f, _, HI2.out, int_eq HJJ.out, rfl, hQ, hB⟩, by rw [show intOf (Value.int .i64 ((i : Int) + 1)) = (i : Int) + 1 from rfl, HJJ.out]; exact HME.out⟩
    · have g1 : ¬ (i : Int) < 2 := by omega
      have HAW := Lib.hid (awake_any wr (HT.out.below hB.out (Nat.le_refl _)))
      go_wp2_with (go_at_call 17; refine HAW.out.mono ?_; rintro e w9 ⟨rfl, hB9⟩; have HB9 := Lib.hid (hB.out.trans (hB9.mono hB.out.size)); clear hB9)
      go_ret
      exact ⟨rfl, HB9.out⟩
end Go.Proofs.YtgpijajgaclhfaaDoor
namespace Go.Proofs.YtgpijajgaclhfaaDoor
open Go.RowKit Go.Shelf

/-- y is more than x and k together -/
def far (x y k : Int) : Bool := decide (x < y) && decide (IntKind.u64.wrap k < IntKind.u64.wrap (IntKind.u64.wrap y - IntKind.u64.wrap x))
set_option maxRecDepth 100000 in
theorem farther_any (x y k : Int) (w : World) :
    Calls Tryd.prog 67 #[.int .i64 x, .int .i64 y, .int .i64 k] w fun e w' => e = .returned (.bool (far x y k)) ∧ w' = w := by
  have hf : Hid (far x y k = (decide (x < y) && decide (IntKind.u64.wrap k < IntKind.u64.wrap (IntKind.u64.wrap y - IntKind.u64.wrap x)))) := rfl
  go_enter Tryd.func67, Tryd.ntmps67
  by_cases h : x < y
  · have q1 : decide (x < y) = true := by simpa using h
    rw [q1, Bool.true_and] at hf
    generalize hz : IntKind.u64.wrap (IntKind.u64.wrap y - IntKind.u64.wrap x) = z at *
    go_wp2
    go_ret
    exact ⟨ret_bool hf.out.symm, rfl⟩
  · have q1 : decide (x < y) = false := by simpa using h
    rw [q1, Bool.false_and] at hf
    go_wp2
    go_ret
    exact ⟨ret_bool hf.out.symm, rfl⟩
/-- what the two tests say -/
structure RepA (m n : Nat) (r : Nat → Nat → Bool) (f : Nat → Int) (k : Int) : Prop where
  len : m = n
  pos : 0 ≤ k
  rel : ∀ x y, x < n → y < n → r x y = far (f x) (f y) k
structure RepB (n : Nat) (ln : Nat → Nat) (r : Nat → Nat → Bool) (m : Nat) (f : Nat → Int) (k : Int) : Prop where
  tab : TabOK n ln r
  rep : RepA m n r f k
set_option maxRecDepth 100000 in
set_option maxHeartbeats 4000000 in
theorem rRep_any (la p : Option Addr) (n lc m c : Nat) (r : Nat → Nat → Bool) (f : Nat → Int) (k : Int) (w : World) (hn : n ≤ 1000) (hT : TblI w la n (fun _ => n) r) (hS : SrcI w p m f) :
    Calls Tryd.prog 43 #[.slice la n lc, .slice p m c, .int .i64 k] w fun e w' => BoolP (RepA m n r f k) e ∧ ∃ z, w' = w.drewN z := by
  by_cases hmn : m = n
  · subst hmn
    by_cases hk : 0 ≤ k
    · have q1 : ((m : Int) != (m : Int)) = false := by simp
      have q2 : decide (k < 0) = false := by simp; omega
      have q3 : ¬ k < 0 := by omega
      have HK := Lib.hid hk
      have HT := Lib.hid hT
      have HS := Lib.hid hS
      clear hT hS hk
      go_enter Tryd.func43, Tryd.ntmps43
      go_upto_region 4 with (fail)
      go_loopw [7] (fun s7 wr => ∃ x : Nat, x ≤ m ∧ s7 = .int .i64 (x : Int) ∧ Hid (∀ x' y, x' < x → y < m → r x' y = far (f x') (f y) k) ∧ ∃ z, Hid (wr = w.drewN z)) (fun s7 _ => m - (intOf s7).toNat)
      case atStart => exact ⟨0, by omega, rfl, (fun x y h => by omega), 0, rfl⟩
      case round =>
        obtain ⟨x, hx, rfl, hp, z, hw⟩ := hrel
        rw [hw.out]
        clear hw
        by_cases hxm : x < m
        · have g1 : (x : Int) < (m : Int) := by omega
          have g2 : (0 : Int) ≤ (x : Int) := by omega
          obtain ⟨b, o, pp, o2, c2, rfl, hb, hpp, k1, hc1⟩ := HT.out.at hxm
          obtain ⟨b3, o3, rfl, hb3, hc3⟩ := HS.out (by omega)
          have k3 := hc3 x hxm
          have HC1 := Lib.hid hc1
          have HC3 := Lib.hid hc3
          clear hc1 hc3
          obtain ⟨fx, hfx⟩ : ∃ fx, Hid (fx = f x) := ⟨_, rfl⟩
          rw [← hfx.out] at k3
          go_upto_region 7 with (fail)
          go_loopw [8] (fun s8 wr => ∃ y : Nat, y ≤ m ∧ s8 = .int .i64 (y : Int) ∧ Hid (∀ y', y' < y → r x y' = far (f x) (f y') k) ∧ ∃ z, Hid (wr = w.drewN z)) (fun s8 _ => m - (intOf s8).toNat)
          case atStart => exact ⟨0, by omega, rfl, (fun y h => by omega), z, rfl⟩
          case round =>
            obtain ⟨y, hy, rfl, hq, z2, hw⟩ := hrel
            by_cases hym : y < m
            · have g3 : (y : Int) < (m : Int) := by omega
              have g4 : (0 : Int) ≤ (y : Int) := by omega
              have k2 : wr.cell? ⟨pp, o2 + y, none⟩ = some (.bool (r x y)) := by rw [hw.out]; exact HC1.out y hym
              have k4 : wr.cell? ⟨b3, o3 + y, none⟩ = some (.int .i64 (f y)) := by rw [hw.out]; exact HC3.out y hym
              have k1' : wr.cell? ⟨b, o + x, none⟩ = some (.slice (some ⟨pp, o2, none⟩) m c2) := by rw [hw.out]; exact k1
              have k3' : wr.cell? ⟨b3, o3 + x, none⟩ = some (.int .i64 fx) := by rw [hw.out]; exact k3
              obtain ⟨fy, hfy⟩ : ∃ fy, Hid (fy = f y) := ⟨_, rfl⟩
              rw [← hfy.out] at k4
              have HN : Hid (r x y = far fx fy k → ∀ y', y' < y + 1 → r x y' = far (f x) (f y') k) := fun h y' hy' => by
                by_cases e : y' = y
                · subst e; rw [← hfx.out, ← hfy.out]; exact h
                · exact hq.out y' (by omega)
              have HX : Hid (¬ r x y = far fx fy k → ¬ RepA m m r f k) := fun h h2 => h (by rw [hfx.out, hfy.out]; exact h2.rel x y hxm hym)
              have HFA : Hid (∀ q, Calls Tryd.prog 67 #[.int .i64 fx, .int .i64 fy, .int .i64 k] (wr.drewN q) fun e w' => e = .returned (.bool (far fx fy k)) ∧ w' = wr.drewN q) := fun q => farther_any fx fy k _
              generalize r x y = u1 at *
              generalize far fx fy k = u2 at *
              by_cases e : u1 = u2
              · have HNN := Lib.hid (HN.out e)
                have q6 : (!u1 == u2) = false := by rw [e]; cases u2 <;> rfl
                clear HN HX
                go_wp2
                go_quiet ((go_at_call 67; exact Calls.quiet_of_same (HFA.out _)))
                go_wp2
                exact ⟨⟨y + 1, by omega, int_eq (by omega), HNN, _, (by unfold Hid; rw [hw.out, World.drewN_drewN])⟩, by simp [intOf]; omega⟩
              · have HXX := Lib.hid (HX.out e)
                have q6 : (!u1 == u2) = true := by cases u1 <;> cases u2 <;> simp_all
                clear HN HX e
                go_wp2
                go_quiet ((go_at_call 67; exact Calls.quiet_of_same (HFA.out _)))
                go_wp2
                go_ret
                exact ⟨BoolP.no HXX.out, _, by rw [hw.out, World.drewN_drewN]⟩
            · have g3 : ¬ (y : Int) < (m : Int) := by omega
              rw [hw.out]
              clear hw
              obtain rfl : m = y := by omega
              have HNN : Hid (∀ x' y, x' < x + 1 → y < m → r x' y = far (f x') (f y) k) := fun x' y hx' hy' => by
                by_cases e : x' = x
                · subst e; exact hq.out y hy'
                · exact hp.out x' y (by omega) hy'
              go_wp2
              exact ⟨⟨x + 1, by omega, int_eq (by omega), HNN, _, rfl⟩, by simp [intOf]; omega⟩
        · have g1 : ¬ (x : Int) < (m : Int) := by omega
          obtain rfl : m = x := by omega
          have HY : Hid (RepA m m r f k) := ⟨rfl, HK.out, fun x y hx hy => hp.out x y hx hy⟩
          go_wp2
          go_ret
          exact ⟨BoolP.yes HY.out, z, rfl⟩
    · have q1 : ((m : Int) != (m : Int)) = false := by simp
      have q3 : k < 0 := by omega
      have HNO : Hid (¬ RepA m m r f k) := fun h => hk h.pos
      clear hT hS
      go_enter Tryd.func43, Tryd.ntmps43
      go_wp2
      go_ret
      exact ⟨BoolP.no HNO.out, 0, rfl⟩
  · have q1 : ((m : Int) != (n : Int)) = true := by rw [bne_iff_ne]; omega
    have HNO : Hid (¬ RepA m n r f k) := fun h => hmn h.len
    clear hT hS hmn
    go_enter Tryd.func43, Tryd.ntmps43
    go_wp2
    go_ret
    exact ⟨BoolP.no HNO.out, 0, rfl⟩
set_option maxRecDepth 100000 in
set_option maxHeartbeats 4000000 in
theorem pRep_any (la p : Option Addr) (n lc m c : Nat) (ln : Nat → Nat) (r : Nat → Nat → Bool) (f : Nat → Int) (k : Int) (w : World) (hn : n ≤ 1099511627776) (hT : TblI w la n ln r) (hS : SrcI w p m f) :
    Calls Tryd.prog 42 #[.slice la n lc, .slice p m c, .int .i64 k] w fun e w' => BoolP (RepB n ln r m f k) e ∧ Below w.heap.size w w' := by
  have HC := Lib.hid (open_any la n lc ln r w hn hT)
  have HS := Lib.hid hS
  clear hT hS
  go_enter Tryd.func42, Tryd.ntmps42
  go_upto_region 2 with (go_at_call 55; refine HC.out.mono ?_; rintro e w1 ⟨ha, hB1⟩; have HB1 := Lib.hid hB1; have HS1 := Lib.hid (HS.out.below hB1 (Nat.le_refl _)); clear hB1; rcases ha with ⟨rfl, hno⟩ | ⟨B, rfl, hok, hBB, hO⟩)
  · have HNO : Hid (¬ RepB n ln r m f k) := fun h => hno h.tab
    clear hno
    go_wp2
    go_ret
    exact ⟨BoolP.no HNO.out, HB1.out⟩
  · have HOK := Lib.hid hok
    have HO := Lib.hid hO
    have hn12 := hok.n12
    have c0 := hO.cn
    clear hok hO HC
    by_cases hmn : m = n
    · subst hmn
      have q1 : ((m : Int) != (m : Int)) = false := by simp
      by_cases hk : 0 ≤ k
      · have q2 : decide (k < 0) = false := by simp; omega
        have q3 : ¬ k < 0 := by omega
        have HK := Lib.hid hk
        clear hk
        go_upto_region 5 with (fail)
        clear c0
        go_loopw [38] (fun s38 wr => ∃ x : Nat, x ≤ m ∧ s38 = .int .i64 (x : Int) ∧ Hid (∀ x' y, x' < x → y < m → r x' y = far (f x') (f y) k) ∧ ∃ z, Hid (wr = w1.drewN z)) (fun s38 _ => m - (intOf s38).toNat)
        case atStart => exact ⟨0, by omega, rfl, (fun x y h => by omega), 0, rfl⟩
        case round =>
          obtain ⟨x, hx, rfl, hp, z, hw⟩ := hrel
          rw [hw.out]
          clear hw
          by_cases hxm : x < m
          · have g1 : (x : Int) < (m : Int) := by omega
            have g2 : (0 : Int) ≤ (x : Int) := by omega
            obtain ⟨b3, o3, rfl, hb3, hc3⟩ := HS1.out (by omega)
            have k3 := hc3 x hxm
            have HC3 := Lib.hid hc3
            clear hc3
            have c0 := HO.out.cn
            obtain ⟨fx, hfx⟩ : ∃ fx, Hid (fx = f x) := ⟨_, rfl⟩
            rw [← hfx.out] at k3
            go_upto_region 8 with (fail)
            clear c0
            go_loopw [45] (fun s45 wr => ∃ y : Nat, y ≤ m ∧ s45 = .int .i64 (y : Int) ∧ Hid (∀ y', y' < y → r x y' = far (f x) (f y') k) ∧ ∃ z, Hid (wr = w1.drewN z)) (fun s45 _ => m - (intOf s45).toNat)
            case atStart => exact ⟨0, by omega, rfl, (fun y h => by omega), z, rfl⟩
            case round =>
              obtain ⟨y, hy, rfl, hq, z2, hw⟩ := hrel
              rw [hw.out]
              clear hw
              by_cases hym : y < m
              · have g3 : (y : Int) < (m : Int) := by omega
                have g4 : (0 : Int) ≤ (y : Int) := by omega
                have k4 := HC3.out y hym
                obtain ⟨fy, hfy⟩ : ∃ fy, Hid (fy = f y) := ⟨_, rfl⟩
                rw [← hfy.out] at k4
                have HN : Hid (r x y = far fx fy k → ∀ y', y' < y + 1 → r x y' = far (f x) (f y') k) := fun h y' hy' => by
                  by_cases e : y' = y
                  · subst e; rw [← hfx.out, ← hfy.out]; exact h
                  · exact hq.out y' (by omega)
                have HX : Hid (¬ r x y = far fx fy k → ¬ RepB m ln r m f k) := fun h h2 => h (by rw [hfx.out, hfy.out]; exact h2.rep.rel x y hxm hym)
                have HHA : Hid (∀ q, Calls Tryd.prog 66 #[.pointer (some ⟨B, 0, none⟩), .int .i64 (x : Int), .int .i64 (y : Int)] (w1.drewN q) fun e w' => e = .returned (.bool (r x y)) ∧ w' = w1.drewN q) := fun q => has_any B m x y r _ hn12 hxm hym (HO.out.dr q)
                have hf : Hid (far fx fy k = (decide (fx < fy) && decide (IntKind.u64.wrap k < IntKind.u64.wrap (IntKind.u64.wrap fy - IntKind.u64.wrap fx)))) := rfl
                generalize r x y = u1 at *
                generalize far fx fy k = u2 at *
                have FIN : Hid (∀ t : Bool, u2 = t → ((t = u1 → (∀ y', y' < y + 1 → r x y' = far (f x) (f y') k)) ∧ (t ≠ u1 → ¬ RepB m ln r m f k))) := fun t ht => by
                  subst ht
                  exact ⟨fun e => HN.out e.symm, fun e => HX.out fun e2 => e e2.symm⟩
                clear HN HX
                generalize hz : IntKind.u64.wrap (IntKind.u64.wrap fy - IntKind.u64.wrap fx) = zz at *
                generalize hkz : IntKind.u64.wrap k = kz at *
                obtain ⟨t, ht⟩ : ∃ t : Bool, Hid (t = (decide (fx < fy) && decide (kz < zz))) := ⟨_, rfl⟩
                have FIN2 := Lib.hid (FIN.out t (hf.out.trans ht.out.symm))
                clear FIN hf
                by_cases h1 : fx < fy
                · have q4 : decide (fx < fy) = true := by simpa using h1
                  by_cases h2 : kz < zz
                  · have q5 : decide (kz < zz) = true := by simpa using h2
                    have HT1 : Hid (t = true) := by rw [ht.out, q4, q5]; rfl
                    cases u1
                    · have HXX := Lib.hid (FIN2.out.2 (by rw [HT1.out]; decide))
                      clear FIN2 ht
                      go_wp2
                      go_quiet (fail)
                      go_wp2_with (go_at_call 66; refine (HHA.out _).mono ?_; rintro e w6 ⟨rfl, hw6⟩; subst hw6)
                      go_ret
                      exact ⟨BoolP.no HXX.out, below_dr HB1.out _⟩
                    · have HNN := Lib.hid (FIN2.out.1 HT1.out)
                      clear FIN2 ht
                      go_wp2
                      go_quiet (fail)
                      go_wp2_with (go_at_call 66; refine (HHA.out _).mono ?_; rintro e w6 ⟨rfl, hw6⟩; subst hw6)
                      exact ⟨⟨y + 1, by omega, int_eq (by omega), HNN, _, rfl⟩, by simp [intOf]; omega⟩
                  · have q5 : decide (kz < zz) = false := by simpa using h2
                    have HT1 : Hid (t = false) := by rw [ht.out, q4, q5]; rfl
                    cases u1
                    · have HNN := Lib.hid (FIN2.out.1 HT1.out)
                      clear FIN2 ht
                      go_wp2
                      go_quiet (fail)
                      go_wp2_with (go_at_call 66; refine (HHA.out _).mono ?_; rintro e w6 ⟨rfl, hw6⟩; subst hw6)
                      exact ⟨⟨y + 1, by omega, int_eq (by omega), HNN, _, rfl⟩, by simp [intOf]; omega⟩
                    · have HXX := Lib.hid (FIN2.out.2 (by rw [HT1.out]; decide))
                      clear FIN2 ht
                      go_wp2
                      go_quiet (fail)
                      go_wp2_with (go_at_call 66; refine (HHA.out _).mono ?_; rintro e w6 ⟨rfl, hw6⟩; subst hw6)
                      go_ret
                      exact ⟨BoolP.no HXX.out, below_dr HB1.out _⟩
                · have q4 : decide (fx < fy) = false := by simpa using h1
                  have HT1 : Hid (t = false) := by rw [ht.out, q4]; rfl
                  cases u1
                  · have HNN := Lib.hid (FIN2.out.1 HT1.out)
                    clear FIN2 ht
                    go_wp2
                    go_quiet (fail)
                    go_wp2_with (go_at_call 66; refine (HHA.out _).mono ?_; rintro e w6 ⟨rfl, hw6⟩; subst hw6)
                    exact ⟨⟨y + 1, by omega, int_eq (by omega), HNN, _, rfl⟩, by simp [intOf]; omega⟩
                  · have HXX := Lib.hid (FIN2.out.2 (by rw [HT1.out]; decide))
                    clear FIN2 ht
                    go_wp2
                    go_quiet (fail)
                    go_wp2_with (go_at_call 66; refine (HHA.out _).mono ?_; rintro e w6 ⟨rfl, hw6⟩; subst hw6)
                    go_ret
                    exact ⟨BoolP.no HXX.out, below_dr HB1.out _⟩
              · have g3 : ¬ (y : Int) < (m : Int) := by omega
                obtain rfl : m = y := by omega
                have HNN : Hid (∀ x' y, x' < x + 1 → y < m → r x' y = far (f x') (f y) k) := fun x' y hx' hy' => by
                  by_cases e : x' = x
                  · subst e; exact hq.out y hy'
                  · exact hp.out x' y (by omega) hy'
                go_wp2
                exact ⟨⟨x + 1, by omega, int_eq (by omega), HNN, _, rfl⟩, by simp [intOf]; omega⟩
          · have g1 : ¬ (x : Int) < (m : Int) := by omega
            obtain rfl : m = x := by omega
            have HY : Hid (RepB m ln r m f k) := ⟨HOK.out, rfl, HK.out, fun x y hx hy => hp.out x y hx hy⟩
            go_wp2
            go_ret
            exact ⟨BoolP.yes HY.out, below_dr HB1.out _⟩
      · have q3 : k < 0 := by omega
        have HNO : Hid (¬ RepB m ln r m f k) := fun h => hk h.rep.pos
        go_wp2
        go_ret
        exact ⟨BoolP.no HNO.out, HB1.out⟩
    · have q1 : ((m : Int) != (n : Int)) = true := by rw [bne_iff_ne]; omega
      have HNO : Hid (¬ RepB n ln r m f k) := fun h => hmn h.rep.len
      clear hmn
      go_wp2
      go_ret
      exact ⟨BoolP.no HNO.out, HB1.out⟩
end Go.Proofs.YtgpijajgaclhfaaDoor
namespace Go.Proofs.YtgpijajgaclhfaaDoor
open Go.RowKit Go.Shelf

theorem far_nat {x y k : Nat} (hx : x < 4611686018427387904) (hy : y < 4611686018427387904) (hk : k < 4611686018427387904) : far (x : Int) (y : Int) (k : Int) = decide (x + k < y) := by
  unfold far
  rw [u64_same k (by omega), u64_same x (by omega), u64_same y (by omega)]
  by_cases h : x < y
  · have h1 : ((y : Int) - (x : Int)) = ((y - x : Nat) : Int) := by omega
    rw [h1, u64_same _ (by omega)]
    have h2 : decide ((x : Int) < (y : Int)) = true := by simpa using h
    rw [h2, Bool.true_and]
    by_cases h3 : x + k < y
    · rw [decide_eq_true h3, decide_eq_true_iff]; omega
    · rw [decide_eq_false h3, decide_eq_false_iff_not]; omega
  · have h2 : decide ((x : Int) < (y : Int)) = false := by simpa using h
    rw [h2, Bool.false_and, decide_eq_false (by omega)]
/-- the order that positions make -/
def posR (f : Nat → Nat) (k : Nat) (i j : Nat) : Bool := decide (f i + k < f j)
theorem posR_tab {m : Nat} (f : Nat → Nat) (k : Nat) (h1 : 1 ≤ m) (h12 : m ≤ 12) : TabOK m (fun _ => m) (posR f k) :=
  ⟨h1, h12, fun _ _ => rfl, ⟨fun x _ => by unfold posR; simp, fun x y z _ _ _ h1 h2 => by unfold posR at *; simp at *; omega⟩⟩
theorem posR_rep {m k : Nat} {f : Nat → Nat} (hf : ∀ j, j < m → f j < 30) (hk : k < 30) : RepA m m (posR f k) (fun j => (f j : Int)) (k : Int) :=
  ⟨rfl, by omega, fun x y hx hy => by rw [far_nat (by have := hf x hx; omega) (by have := hf y hy; omega) (by omega)]; rfl⟩
theorem judge22 (p : Option Addr) (k c : Nat) (R : Nat → Nat → Bool) (x0 x1 x2 x3 : Int) (hk : TabOK k (fun _ => k) R) : ∃ t : Bool, ∀ W, TblI W p k (fun _ => k) R →
    (Calls Tryd.prog 29 #[.slice p k c, .agg #[.int .i64 x0, .int .i64 x1, .int .i64 x2, .int .i64 x3]] W fun e w' => e = .returned (.bool t) ∧ Below W.heap.size W w') ∧
    (Calls Tryd.prog 28 #[.slice p k c, .agg #[.int .i64 x0, .int .i64 x1, .int .i64 x2, .int .i64 x3]] W fun e w' => e = .returned (.bool t) ∧ Below W.heap.size W w') := by
  obtain ⟨t, ht⟩ := boolOf (In4 k x0 x1 x2 x3 ∧ TwoTwo k R x0.toNat x1.toNat x2.toNat x3.toNat)
  refine ⟨t, fun W hW => ⟨(IsTwoTwo_any p k c _ R x0 x1 x2 x3 W (by have := hk.n12; omega) hW).mono fun e w' h => ⟨h.1.dec (b := t) (ht.trans ⟨fun h => ⟨hk, h⟩, fun h => h.2⟩), h.2⟩, (rTT_any p k c R x0 x1 x2 x3 W (by have := hk.n12; omega) hW).mono fun e w' h => ⟨h.1.dec (b := t) ht, h.2⟩⟩⟩
theorem judge31 (p : Option Addr) (k c : Nat) (R : Nat → Nat → Bool) (x0 x1 x2 x3 : Int) (hk : TabOK k (fun _ => k) R) : ∃ t : Bool, ∀ W, TblI W p k (fun _ => k) R →
    (Calls Tryd.prog 40 #[.slice p k c, .agg #[.int .i64 x0, .int .i64 x1, .int .i64 x2, .int .i64 x3]] W fun e w' => e = .returned (.bool t) ∧ Below W.heap.size W w') ∧
    (Calls Tryd.prog 41 #[.slice p k c, .agg #[.int .i64 x0, .int .i64 x1, .int .i64 x2, .int .i64 x3]] W fun e w' => e = .returned (.bool t) ∧ Below W.heap.size W w') := by
  obtain ⟨t, ht⟩ := boolOf (In4 k x0 x1 x2 x3 ∧ ThreeOne k R x0.toNat x1.toNat x2.toNat x3.toNat)
  refine ⟨t, fun W hW => ⟨(IsThreeOne_any p k c _ R x0 x1 x2 x3 W (by have := hk.n12; omega) hW).mono fun e w' h => ⟨h.1.dec (b := t) (ht.trans ⟨fun h => ⟨hk, h⟩, fun h => h.2⟩), h.2⟩, (rTO_any p k c R x0 x1 x2 x3 W (by have := hk.n12; omega) hW).mono fun e w' h => ⟨h.1.dec (b := t) ht, h.2⟩⟩⟩
theorem judgeR (p q : Option Addr) (k c m d : Nat) (R : Nat → Nat → Bool) (f : Nat → Int) (z : Int) (hk : TabOK k (fun _ => k) R) : ∃ t : Bool, (t = true ↔ RepA m k R f z) ∧ ∀ W, TblI W p k (fun _ => k) R → SrcI W q m f →
    (Calls Tryd.prog 42 #[.slice p k c, .slice q m d, .int .i64 z] W fun e w' => e = .returned (.bool t) ∧ Below W.heap.size W w') ∧
    (Calls Tryd.prog 43 #[.slice p k c, .slice q m d, .int .i64 z] W fun e w' => e = .returned (.bool t) ∧ Below W.heap.size W w') := by
  obtain ⟨t, ht⟩ := boolOf (RepA m k R f z)
  refine ⟨t, ht, fun W hW hS => ⟨(pRep_any p q k c m d _ R f z W (by have := hk.n12; omega) hW hS).mono fun e w' h => ⟨h.1.dec (b := t) (ht.trans ⟨fun h => ⟨hk, h⟩, fun h => h.rep⟩), h.2⟩, (rRep_any p q k c m d R f z W (by have := hk.n12; omega) hW hS).mono fun e w' h => ⟨h.1.dec (b := t) ht, ?_⟩⟩⟩
  obtain ⟨z, rfl⟩ := h.2
  exact below_dr (Below.refl _ _) z
/-- a table of an order lies where there is no row of numbers -/
theorem TblI.keep {w W : World} {p : Option Addr} {k bx : Nat} {R : Nat → Nat → Bool} {x0 x1 x2 x3 : Int} (h : TblI w p k (fun _ => k) R) (hb : BoxN w bx 45 #[.int .i64 x0, .int .i64 x1, .int .i64 x2, .int .i64 x3]) (hs : w.heap.size ≤ W.heap.size) (hK : ∀ b, b < w.heap.size → b ≠ bx → W.heap[b]? = w.heap[b]?) : TblI W p k (fun _ => k) R := fun h0 => by
  obtain ⟨b, o, e, h1, h2⟩ := h h0
  have hsl : ∀ {i : Nat} {v : Value}, w.cell? ⟨bx, i, none⟩ = some v → ∃ z, v = .int .i64 z := fun {i v} hv => by
    rw [hb.cell] at hv
    have hi : i < 4 := by
      have := (Array.getElem?_eq_some_iff.1 hv).1
      simpa using this
    rcases (show i = 0 ∨ i = 1 ∨ i = 2 ∨ i = 3 by omega) with rfl | rfl | rfl | rfl
    · exact ⟨x0, (Option.some.inj hv).symm⟩
    · exact ⟨x1, (Option.some.inj hv).symm⟩
    · exact ⟨x2, (Option.some.inj hv).symm⟩
    · exact ⟨x3, (Option.some.inj hv).symm⟩
  have hbb : b ≠ bx := fun e2 => by
    obtain ⟨q, c, h3, _⟩ := h2 0 (by omega)
    rw [e2] at h3
    obtain ⟨z, hz⟩ := hsl h3
    cases hz
  refine ⟨b, o, e, by omega, fun i hi => ?_⟩
  obtain ⟨q, c, h3, h4⟩ := h2 i hi
  refine ⟨q, c, (World.cell?_of_block (hK b h1 hbb)).trans h3, fun h5 => ?_⟩
  obtain ⟨b2, o2, e2, h6, h7⟩ := h4 h5
  have hb2 : b2 ≠ bx := fun e3 => by
    have := h7 0 (by show 0 < k; omega)
    rw [e3] at this
    obtain ⟨z, hz⟩ := hsl this
    cases hz
  exact ⟨b2, o2, e2, by omega, fun j hj => (World.cell?_of_block (hK b2 h6 hb2)).trans (h7 j hj)⟩
theorem QRow.shorter {W : World} {base : Nat} {p : Option Addr} {m c k : Nat} {f : Nat → Int} (h : QRow W base 3 1 (.slice p m c) m (ivI f m)) (hk : k ≤ m) : QRow W base 3 1 (.slice p k c) k (ivI f k) := by
  rcases h.2 with ⟨e, h0⟩ | ⟨g, o, cap, cur, e, h1, h2, h3, h4, h5, h6⟩
  · cases e
    obtain rfl : k = 0 := by omega
    exact QRow.nil _ _ _ _
  · cases e
    refine ⟨by rw [ivI_len]; omega, .inr ⟨g, o, c, cur, rfl, h1, h2, by omega, h4, h5, fun j hj => ?_⟩⟩
    rw [h6 j (by omega), ivI_get _ _ _ (by omega), ivI_get _ _ _ (by omega)]
theorem ivI_congr {f g : Nat → Int} {m : Nat} (h : ∀ j, j < m → f j = g j) : ivI f m = ivI g m := by
  unfold ivI
  exact List.map_congr_left fun j hj => by rw [h j (List.mem_range.1 hj)]
theorem ivI_snoc (f : Nat → Int) (m : Nat) (z : Int) : ivI f m ++ [.int .i64 z] = ivI (fun j => if j = m then z else f j) (m + 1) := by
  unfold ivI
  rw [List.range_succ, List.map_append]
  congr 1
  · exact List.map_congr_left fun j hj => by
      show _ = Value.int .i64 (if j = m then z else f j)
      rw [if_neg (by have := List.mem_range.1 hj; omega)]
  · simp
end Go.Proofs.YtgpijajgaclhfaaDoor
