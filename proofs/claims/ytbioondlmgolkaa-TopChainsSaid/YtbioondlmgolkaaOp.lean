/- The program's order is made out of a table: walks. -/
import Derived.BigRegion
import Derived.Test.YtbioondlmgolkaaG508
set_option linter.unusedVariables false
set_option linter.unusedSimpArgs false
namespace Go.Proofs.Ytbioondlmgolkaa
open Go.RowKit Go.Shelf

set_option maxRecDepth 100000 in
theorem lenne_any (p la : Option Addr) (m n c lc b1 : Nat) (w : World) (h1 : w.cell? ⟨b1, 0, none⟩ = some (.slice la n lc)) :
    Calls Try.prog 80 #[.slice p m c, .pointer (some ⟨b1, 0, none⟩)] w fun e w' => e = .returned (.bool ((m : Int) != (n : Int))) ∧ w' = w := by
  generalize hb : ((m : Int) != (n : Int)) = b
  go_enter Try.func80, Try.ntmps80
  go_wp2
  go_ret
  exact ⟨rfl, rfl⟩
set_option maxRecDepth 100000 in
set_option maxHeartbeats 1000000 in
theorem indexr_any (la : Option Addr) (n lc b1 : Nat) (ln : Nat → Nat) (r : Nat → Nat → Bool) (w : World) (hn : n ≤ 1099511627776) (hT : TblI w la n ln r) (h1 : w.cell? ⟨b1, 0, none⟩ = some (.slice la n lc)) :
    Calls Try.prog 89 #[.slice la n lc, .func (.func 80) #[] #[.pointer (some ⟨b1, 0, none⟩)]] w fun e w' => (∃ k : Int, e = .returned (.int .i64 k) ∧ Hid ((k = -1 ∧ ∀ j, j < n → ln j = n) ∨ (0 ≤ k ∧ ∃ j, j < n ∧ ln j ≠ n))) ∧ w' = w := by
  have HT := Lib.hid hT
  have HC := Lib.hid (fun p m c => lenne_any p la m n c lc b1 w h1)
  clear hT h1
  go_enter Try.func89, Try.ntmps89
  go_upto_region 2 with (fail)
  go_loopw [8] (fun s8 wr => ∃ j : Nat, j ≤ n ∧ s8 = .int .i64 (j : Int) ∧ Hid (∀ i, i < j → ln i = n) ∧ Hid (wr = w)) (fun s8 _ => n - (intOf s8).toNat)
  case atStart => exact ⟨0, by omega, rfl, (fun i hi => by omega), rfl⟩
  case round =>
    obtain ⟨j, hj, rfl, hp, hw⟩ := hrel
    rw [hw.out]
    by_cases hjm : j < n
    · have g1 : (j : Int) < (n : Int) := by omega
      have g0 : (0 : Int) ≤ (j : Int) := by omega
      obtain ⟨b, o, e0, hb, hc⟩ := HT.out (by omega)
      obtain ⟨p, c, k1, _⟩ := hc j hjm
      have HCJ := Lib.hid (HC.out p (ln j) c)
      subst e0
      clear hc
      by_cases hf : ln j = n
      · have HN : Hid (∀ i, i < j + 1 → ln i = n) := fun i hi => by
          by_cases e : i = j
          · subst e; exact hf
          · exact hp.out i (by omega)
        have hd : (((ln j : Nat) : Int) != (n : Int)) = false := by rw [hf]; simp
        rw [hd] at HCJ
        clear hf hd HC
        generalize ln j = z at *
        go_wp2_with (go_at_call 80; refine HCJ.out.mono ?_; rintro e w4 ⟨rfl, hw4⟩; subst hw4; try dsimp only)
        exact ⟨⟨j + 1, by omega, int_eq (by omega), HN, True.intro⟩, by simp [intOf]; omega⟩
      · have HF : Hid (∃ j, j < n ∧ ln j ≠ n) := ⟨j, hjm, hf⟩
        have hd : (((ln j : Nat) : Int) != (n : Int)) = true := by rw [bne_iff_ne]; omega
        rw [hd] at HCJ
        clear hf hd HC
        generalize ln j = z at *
        go_wp2_with (go_at_call 80; refine HCJ.out.mono ?_; rintro e w4 ⟨rfl, hw4⟩; subst hw4; try dsimp only)
        go_ret
        exact ⟨⟨_, rfl, .inr ⟨by omega, HF.out⟩⟩, rfl⟩
    · have g1 : ¬ (j : Int) < (n : Int) := by omega
      have HP : Hid (∀ i, i < n → ln i = n) := fun i hi => hp.out i (by omega)
      go_wp2
      go_ret
      exact ⟨⟨_, rfl, .inl ⟨rfl, HP.out⟩⟩, rfl⟩
set_option maxRecDepth 100000 in
theorem containsr_any (la : Option Addr) (n lc b1 : Nat) (ln : Nat → Nat) (r : Nat → Nat → Bool) (w : World) (hn : n ≤ 1099511627776) (hT : TblI w la n ln r) (h1 : w.cell? ⟨b1, 0, none⟩ = some (.slice la n lc)) :
    Calls Try.prog 60 #[.slice la n lc, .func (.func 80) #[] #[.pointer (some ⟨b1, 0, none⟩)]] w fun e w' => BoolP (∃ j, j < n ∧ ln j ≠ n) e ∧ w' = w := by
  have HI := Lib.hid (indexr_any la n lc b1 ln r w hn hT h1)
  clear hT h1
  go_enter Try.func60, Try.ntmps60
  go_wp2_with (go_at_call 89; refine HI.out.mono ?_; rintro e w4 ⟨⟨k, rfl, hr⟩, hw4⟩; have HR := hr; subst hw4; clear hr; try dsimp only)
  go_ret
  rcases HR.out with ⟨rfl, h⟩ | ⟨h0, h⟩
  · exact ⟨⟨false, rfl, (fun e => by cases e), fun ⟨j, hj, hlt⟩ => absurd (h j hj) hlt⟩, rfl⟩
  · exact ⟨⟨true, by simp [h0], fun _ => h, fun _ => rfl⟩, rfl⟩
theorem sm_bs (p : Nat → Bool) {n : Nat} (hn : n ≤ 20) : Sm (bs p n) := sm_of (Nat.lt_of_lt_of_le (bs_lt p n) (show 2 ^ n ≤ 2 ^ 20 from Nat.pow_le_pow_right (by decide) hn))
theorem OrdAt.dr {w : World} {B n : Nat} {r : Nat → Nat → Bool} (h : OrdAt w B n r) (q : Nat) : OrdAt (w.drewN q) B n r := ⟨h.lt, by rw [World.cell?_drewN]; exact h.cn, fun j hj => by rw [World.cell?_drewN]; exact h.cb j hj, fun j hj => by rw [World.cell?_drewN]; exact h.ca j hj⟩
/-- what open answers -/
def OpenA (n : Nat) (ln : Nat → Nat) (r : Nat → Nat → Bool) (base : Nat) (e : Ending) (w' : World) : Prop :=
  (e = .returned (.tuple #[.pointer none, .int .i64 100]) ∧ ¬ TabOK n ln r) ∨
  (∃ B, e = .returned (.tuple #[.pointer (some ⟨B, 0, none⟩), .int .i64 0]) ∧ TabOK n ln r ∧ base ≤ B ∧ OrdAt w' B n r)
set_option maxRecDepth 100000 in
set_option maxHeartbeats 8000000 in
theorem open_any (la : Option Addr) (n lc : Nat) (ln : Nat → Nat) (r : Nat → Nat → Bool) (w : World) (hn : n ≤ 1099511627776) (hT : TblI w la n ln r) :
    Calls Try.prog 47 #[.slice la n lc] w fun e w' => OpenA n ln r w.heap.size e w' ∧ Below w.heap.size w w' := by
  have HB0 : Hid (Below w.heap.size w (w.alloc (.cells #[.slice la n lc] 32))) := (Below.refl _ _).alloc (Nat.le_refl _) _
  have HX0 : Hid (BoxN (w.alloc (.cells #[.slice la n lc] 32)) w.heap.size 32 #[.slice la n lc]) := BoxN.new rfl
  have HT0 := Lib.hid (hT.below HB0.out (Nat.le_refl _))
  have HC := Lib.hid (containsr_any la n lc w.heap.size ln r _ hn HT0.out (HX0.out.cell 0))
  have hs0 := Lib.hid (show (w.alloc (.cells #[.slice la n lc] 32)).heap.size = w.heap.size + 1 by simp)
  clear hT
  go_enter Try.func47, Try.ntmps47
  go_upto_region 1 with (fail)
  obtain ⟨b1, hb1⟩ : ∃ b1, Hid (b1 = w.heap.size) := ⟨_, rfl⟩
  rw [← hb1.out] at HX0 HC hs0
  simp only [← hb1.out]
  generalize w.alloc (.cells #[.slice la n lc] 32) = X at *
  have c0 := HX0.out.cell 0
  have hbx : b1 < X.heap.size := HX0.out.lt
  by_cases hn1 : n < 1
  · have g1 : (n : Int) < 1 := by omega
    go_wp2
    refine bodyPost_ret (v := .tuple #[.pointer none, .int .i64 100]) (by simp [results, Try.f47, go_sem]) rfl ?_
    exact ⟨.inl ⟨rfl, fun h => by have := h.n1; omega⟩, HB0.out⟩
  · have g1 : ¬ (n : Int) < 1 := by omega
    by_cases hn12 : 12 < n
    · have g2 : (12 : Int) < (n : Int) := by omega
      go_wp2
      refine bodyPost_ret (v := .tuple #[.pointer none, .int .i64 100]) (by simp [results, Try.f47, go_sem]) rfl ?_
      exact ⟨.inl ⟨rfl, fun h => by have := h.n12; omega⟩, HB0.out⟩
    · have g2 : ¬ (12 : Int) < (n : Int) := by omega
      by_cases hsq : ∃ j, j < n ∧ ln j ≠ n
      · have HSQ := Lib.hid hsq
        clear hsq
        go_wp2_with (go_at_call 60; refine HC.out.mono ?_; rintro e w4 ⟨h4, hw4⟩; obtain rfl := h4.dec (b := true) ⟨fun _ => HSQ.out, fun _ => rfl⟩; subst hw4; clear h4; try dsimp only)
        refine bodyPost_ret (v := .tuple #[.pointer none, .int .i64 100]) (by simp [results, Try.f47, go_sem]) rfl ?_
        exact ⟨.inl ⟨rfl, fun h => by obtain ⟨j, hj, hne⟩ := HSQ.out; exact hne (h.sq j hj)⟩, HB0.out⟩
      · have HSQ := Lib.hid hsq
        have HSQ2 : Hid (∀ j, j < n → ln j = n) := fun j hj => Classical.byContradiction fun hne => HSQ.out ⟨j, hj, hne⟩
        clear hsq
        go_upto_region 3 with (go_at_call 60; refine HC.out.mono ?_; rintro e w4 ⟨h4, hw4⟩; obtain rfl := h4.dec (b := false) ⟨(fun h => by cases h), fun h => absurd h HSQ.out⟩; subst hw4; clear h4; try dsimp only)
        go_upto_region 5 with (fail)
        have hn12' : n ≤ 12 := by omega
        have hn1' : 1 ≤ n := by omega
        obtain ⟨B, hBe⟩ : ∃ B, Hid (B = w4.heap.size) := ⟨_, rfl⟩
        simp only [← hBe.out]
        go_loopw [29] (fun s29 wr => ∃ (x : Nat) (vs : Array Value), x ≤ n ∧ s29 = .int .i64 (x : Int) ∧ BoxN wr B 103 vs ∧ Hid (OrdCells vs n (bfP n r x 0) (afP n r x 0)) ∧ Hid (Below w4.heap.size w4 wr)) (fun s29 _ => n - (intOf s29).toNat)
        case atStart =>
          refine ⟨0, _, by omega, rfl, (by have := BoxN.new (W := w4) (t := 103) (vs := #[.int .i64 (n : Int), .int .i64 0, .int .i64 0, .int .i64 0, .int .i64 0, .int .i64 0, .int .i64 0, .int .i64 0, .int .i64 0, .int .i64 0, .int .i64 0, .int .i64 0, .int .i64 0, .int .i64 0, .int .i64 0, .int .i64 0, .int .i64 0, .int .i64 0, .int .i64 0, .int .i64 0, .int .i64 0, .int .i64 0, .int .i64 0, .int .i64 0, .int .i64 0]) rfl; rw [hBe.out]; exact this), ⟨rfl, rfl, fun j hj => ?_⟩, (Below.refl _ _).alloc (Nat.le_refl _) _⟩
          rw [bfP_zero, afP_zero]
          rcases (show j = 0 ∨ j = 1 ∨ j = 2 ∨ j = 3 ∨ j = 4 ∨ j = 5 ∨ j = 6 ∨ j = 7 ∨ j = 8 ∨ j = 9 ∨ j = 10 ∨ j = 11 by omega) with rfl | rfl | rfl | rfl | rfl | rfl | rfl | rfl | rfl | rfl | rfl | rfl <;> exact ⟨rfl, rfl⟩
        case round =>
          obtain ⟨x, vs, hx, rfl, hbox, hcc, hB⟩ := hrel
          by_cases hxn : x < n
          · have g5 : (x : Int) < (n : Int) := by omega
            have g6 : (0 : Int) ≤ (x : Int) := by omega
            obtain ⟨wo, hwo⟩ : ∃ wo, Hid (wo = wr) := ⟨_, rfl⟩
            rw [← hwo.out] at hbox hB ⊢
            clear hwo
            have c1 := (hB.out.cell (p := ⟨b1, 0, none⟩) hbx).trans c0
            obtain ⟨bt, ot, e0, hbt, hct⟩ := HT0.out (by omega)
            obtain ⟨pr, cr, k1, k2⟩ := hct x hxn
            have K2 := Lib.hid k2
            have c2 := (hB.out.cell (p := ⟨bt, ot + x, none⟩) hbt).trans k1
            rw [HSQ2.out x hxn] at c2 K2
            have HXN := Lib.hid hxn
            have HE0 := Lib.hid e0
            have hXo : w4.heap.size ≤ wo.heap.size := hB.out.size
            subst e0
            clear hct k1 k2
            go_upto_region 8 with (fail)
            go_loopw [37] (fun s37 wq => ∃ (y : Nat) (vs : Array Value), y ≤ n ∧ s37 = .int .i64 (y : Int) ∧ BoxN wq B 103 vs ∧ Hid (OrdCells vs n (bfP n r x y) (afP n r x y)) ∧ Hid (Below w4.heap.size w4 wq)) (fun s37 _ => n - (intOf s37).toNat)
            case atStart => exact ⟨0, vs, by omega, rfl, hbox, hcc, hB⟩
            case round =>
              obtain ⟨y, vs, hy, rfl, hbox, hcc, hB⟩ := hrel
              by_cases hyn : y < n
              · have g7 : (y : Int) < (n : Int) := by omega
                have g8 : (0 : Int) ≤ (y : Int) := by omega
                obtain ⟨br, or', e0, hbr, hcr⟩ := K2.out (by omega)
                have c3 := (hB.out.cell (p := ⟨br, or' + y, none⟩) hbr).trans (hcr y hyn)
                have HE1 := Lib.hid e0
                subst e0
                have HYN := Lib.hid hyn
                have hBw : w4.heap.size ≤ B := by rw [hBe.out]; omega
                by_cases hr : r x y = true
                · rw [hr] at c3
                  have HR := Lib.hid hr
                  have l1 := hbox.cell (13 + x)
                  have l2 := hbox.cell (1 + y)
                  rw [(hcc.out.2.2 x HXN.out).2] at l1
                  rw [(hcc.out.2.2 y hyn).1] at l2
                  have HADD := Lib.hid (hcc.out.add hn12' HXN.out hyn hr)
                  have hgx : Sm (afP n r x y x) := sm_bs _ (by omega)
                  have hgy : Sm (bfP n r x y y) := sm_bs _ (by omega)
                  have lf1 := hbox.frozen (13 + x)
                  have lf2 := hbox.frozen (1 + y)
                  have hx20 : x < 20 := by omega
                  have hy20 : y < 20 := by omega
                  have hx10 : (x : Int) < 12 := by omega
                  have hy10 : (y : Int) < 12 := by omega
                  have l2' : ∀ v, (wr.setCell ⟨B, 13 + x, none⟩ v).cell? ⟨B, 1 + y, none⟩ = some (.int .i64 ((bfP n r x y y : Nat) : Int)) := fun v =>
                    (World.cell?_setCell_other _ _ _ _ (fun e => by have := congrArg Addr.off e; simp at this; omega)).trans l2
                  clear l2 hcr hr hcc
                  generalize afP n r x y x = ga at *
                  generalize bfP n r x y y = gb at *
                  go_wp2
                  go_region
                  go_wp2
                  go_region
                  go_wp2
                  go_roundw
                  case rel => exact ⟨y + 1, _, by omega, by go_num, ((hbox.set (13 + x) _).set (1 + y) _), HADD.out, (((hB.out.setCell (p := ⟨B, 13 + x, none⟩) hBw _).setCell (p := ⟨B, 1 + y, none⟩) hBw _).drew.drew)⟩
                  case measure => simp [intOf]; omega
                · have hr' : r x y = false := by simpa using hr
                  rw [hr'] at c3
                  have HADD : Hid (OrdCells vs n (bfP n r x (y + 1)) (afP n r x (y + 1))) := by
                    have : bfP n r x (y + 1) = bfP n r x y := funext (bfP_no hr')
                    rw [this]
                    have : afP n r x (y + 1) = afP n r x y := funext (afP_no hr')
                    rw [this]
                    exact hcc.out
                  clear hr hr' hcc hcr
                  go_wp2
                  exact ⟨⟨y + 1, vs, by omega, int_eq (by omega), hbox, HADD.out, hB⟩, by simp [intOf]; omega⟩
              · have g7 : ¬ (y : Int) < (n : Int) := by omega
                obtain rfl : y = n := by omega
                have HADD : Hid (OrdCells vs y (bfP y r (x + 1) 0) (afP y r (x + 1) 0)) := ⟨hcc.out.1, hcc.out.2.1, fun j hj => by rw [← bfP_row hj, ← afP_row]; exact hcc.out.2.2 j hj⟩
                clear hcc
                go_wp2
                exact ⟨⟨x + 1, vs, by omega, int_eq (by omega), hbox, HADD.out, hB⟩, by simp [intOf]; omega⟩
          · have g5 : ¬ (x : Int) < (n : Int) := by omega
            obtain rfl : x = n := by omega
            have c1 := (hB.out.cell (p := ⟨b1, 0, none⟩) hbx).trans c0
            have HORD := Lib.hid (OrdAt.ofBox hbox hcc.out)
            have HTR := Lib.hid (HT0.out.below hB.out (Nat.le_refl _))
            clear hcc
            go_upto_region 16 with (fail)
            obtain ⟨W, hWe⟩ : ∃ W, Hid (W = wr) := ⟨_, rfl⟩
            rw [← hWe.out] at hbox hB HORD HTR c1 ⊢
            clear hWe
            go_loopw [73] (fun s73 wr => ∃ i : Nat, i ≤ x ∧ s73 = .int .i64 (i : Int) ∧ Hid (∀ a, a < i → r a a = false ∧ ∀ b, b < x → r a b = true → ∀ z, z < x → r b z = true → r a z = true) ∧ (∃ m, Hid (wr = W.drewN m))) (fun s73 _ => x - (intOf s73).toNat)
            case atStart => exact ⟨0, by omega, rfl, (fun a ha => by omega), 0, rfl⟩
            case round =>
              obtain ⟨i, hi, rfl, hp, mW, hw⟩ := hrel
              rw [hw.out]
              clear hw
              by_cases hix : i < x
              · have g7 : (i : Int) < (x : Int) := by omega
                have g8 : (0 : Int) ≤ (i : Int) := by omega
                obtain ⟨bt, ot, e0, hbt, hct⟩ := HTR.out (by omega)
                obtain ⟨pr, cr, k1, k2⟩ := hct i hix
                rw [HSQ2.out i hix] at k1 k2
                obtain ⟨br, or', e1, hbr, hcr⟩ := k2 (by omega)
                have c3 := hcr i hix
                subst e0
                subst e1
                have HCR := Lib.hid hcr
                have HIX := Lib.hid hix
                clear hct k2 hcr
                by_cases hii : r i i = true
                · rw [hii] at c3
                  have HII := Lib.hid hii
                  clear hii
                  go_wp2
                  refine bodyPost_ret (v := .tuple #[.pointer none, .int .i64 100]) (by simp [results, Try.f47, go_sem]) rfl ?_
                  exact ⟨.inl ⟨rfl, fun h => by have := h.ord.irr i HIX.out; rw [HII.out] at this; cases this⟩, HB0.out.trans (below_dr (hB.out.mono HB0.out.size) _)⟩
                · have hii' : r i i = false := by simpa using hii
                  rw [hii'] at c3
                  have HII := Lib.hid hii'
                  clear hii hii'
                  go_upto_region 21 with (fail)
                  go_loopw [85] (fun s85 wr => ∃ j : Nat, j ≤ x ∧ s85 = .int .i64 (j : Int) ∧ Hid (∀ b, b < j → r i b = true → ∀ z, z < x → r b z = true → r i z = true) ∧ (∃ m, Hid (wr = W.drewN m))) (fun s85 _ => x - (intOf s85).toNat)
                  case atStart => exact ⟨0, by omega, rfl, (fun b hb => by omega), mW, rfl⟩
                  case round =>
                    obtain ⟨j, hj, rfl, hq, mV, hw⟩ := hrel
                    rw [hw.out]
                    clear hw
                    by_cases hjx : j < x
                    · have g9 : (j : Int) < (x : Int) := by omega
                      have g10 : (0 : Int) ≤ (j : Int) := by omega
                      have c4 := HCR.out j hjx
                      have HJX := Lib.hid hjx
                      by_cases hij : r i j = true
                      · rw [hij] at c4
                        have l1 := HORD.out.ca j hjx
                        have l2 := HORD.out.ca i HIX.out
                        have hd := aft_sub (n := x) (r := r) (x := i) (y := j)
                        have hga : Sm (aft x r j) := sm_bs _ (by omega)
                        have hgb : Sm (aft x r i) := sm_bs _ (by omega)
                        have HIJ := Lib.hid hij
                        clear hij
                        have hx10 : (i : Int) < 12 := by omega
                        have hy10 : (j : Int) < 12 := by omega
                        generalize aft x r j = ga at *
                        generalize aft x r i = gb at *
                        by_cases hs : ldiff ga gb = 0
                        · have HN : Hid (∀ b, b < j + 1 → r i b = true → ∀ z, z < x → r b z = true → r i z = true) := fun b hb => by
                            by_cases e : b = j
                            · subst e; exact fun _ => hd.1 hs
                            · exact hq.out b (by omega)
                          have hne : (((ldiff ga gb : Nat) : Int) != 0) = false := by rw [hs]; rfl
                          have hne' : ((ldiff ga gb : Nat) : Int) = 0 := by rw [hs]; rfl
                          clear hd hs
                          go_wp2
                          go_quiet (fail)
                          go_wp2
                          exact ⟨⟨j + 1, by omega, int_eq (by omega), HN, _, rfl⟩, by simp [intOf]; omega⟩
                        · have HF : Hid (¬ ∀ z, z < x → r j z = true → r i z = true) := fun h => hs (hd.2 h)
                          have hne : (((ldiff ga gb : Nat) : Int) != 0) = true := by rw [bne_iff_ne]; omega
                          clear hd hs
                          go_wp2
                          go_quiet (fail)
                          go_wp2
                          refine bodyPost_ret (v := .tuple #[.pointer none, .int .i64 100]) (by simp [results, Try.f47, go_sem]) rfl ?_
                          exact ⟨.inl ⟨rfl, fun h => HF.out fun z hz h1 => h.ord.tr i j z HIX.out HJX.out hz HIJ.out h1⟩, HB0.out.trans (below_dr (below_dr (hB.out.mono HB0.out.size) _) _)⟩
                      · have hij' : r i j = false := by simpa using hij
                        rw [hij'] at c4
                        have HN : Hid (∀ b, b < j + 1 → r i b = true → ∀ z, z < x → r b z = true → r i z = true) := fun b hb => by
                            by_cases e : b = j
                            · subst e; intro h; rw [hij'] at h; cases h
                            · exact hq.out b (by omega)
                        clear hij hij'
                        go_wp2
                        go_quiet (fail)
                        go_wp2
                        exact ⟨⟨j + 1, by omega, int_eq (by omega), HN, _, rfl⟩, by simp [intOf]; omega⟩
                    · have g9 : ¬ (j : Int) < (x : Int) := by omega
                      obtain rfl : j = x := by omega
                      have HN : Hid (∀ a, a < i + 1 → r a a = false ∧ ∀ b, b < j → r a b = true → ∀ z, z < j → r b z = true → r a z = true) := fun a ha => by
                        by_cases e : a = i
                        · subst e; exact ⟨HII.out, fun b hb h z hz h2 => hq.out b hb h z hz h2⟩
                        · exact hp.out a (by omega)
                      go_wp2
                      exact ⟨⟨i + 1, by omega, int_eq (by omega), HN, _, rfl⟩, by simp [intOf]; omega⟩
              · have g7 : ¬ (i : Int) < (x : Int) := by omega
                obtain rfl : i = x := by omega
                go_wp2
                refine bodyPost_ret (v := .tuple #[.pointer (some ⟨B, 0, none⟩), .int .i64 0]) (by simp [results, Try.f47, go_sem, hBe.out]) rfl ?_
                exact ⟨.inr ⟨B, rfl, ⟨hn1', hn12', HSQ2.out, ⟨fun a ha => (hp.out a ha).1, fun a b c ha hb hc h1 h2 => (hp.out a ha).2 b hb h1 c hc h2⟩⟩, by rw [hBe.out]; exact HB0.out.size, HORD.out.dr _⟩, HB0.out.trans (below_dr (hB.out.mono HB0.out.size) _)⟩
end Go.Proofs.Ytbioondlmgolkaa
