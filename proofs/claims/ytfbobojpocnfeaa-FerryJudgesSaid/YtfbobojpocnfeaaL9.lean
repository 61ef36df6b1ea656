/- FerryChecks: the walk of the law. -/
import Derived.Test.YtfbobojpocnfeaaOw
namespace Go.Proofs.Ytfbobojpocnfeaa
open Go.RowKit Go.Shelf

theorem rcheck_any (n : Int) (a : Option Addr) (cap : Nat) (ps : List (Int × Int)) (w : World) (hl : ps.length ≤ 1099511627776) (hg : Pairs w a ps) :
    Calls Try.prog 42 #[.int .i64 n, .slice a ps.length cap] w fun e w' => e = .returned (.int .i64 (checkP n ps)) ∧ ∃ m, w' = w.drewN m := by
  have HP : Hid (checkP n ps = if n < 1 ∨ 16 < n then 1 else if edgesB n ps = true then 0 else 40) := rfl
  have HE := Lib.hid (edges_any n a cap ps w hl hg)
  generalize edgesB n ps = q at *
  generalize checkP n ps = c at *
  generalize ps.length = len at *
  by_cases h1 : n < 1 ∨ 16 < n
  · have HC : Hid (c = 1) := by unfold Hid; rw [HP.out, if_pos h1]
    clear HP
    go_enter Try.func42, Try.ntmps42
    go_wp2
    all_goals (go_ret; exact ⟨ret_int HC.out.symm, 0, rfl⟩)
  · have h2 : ¬ n < 1 := fun e => h1 (.inl e)
    have h3 : ¬ 16 < n := fun e => h1 (.inr e)
    have HC : Hid (c = if q = true then 0 else 40) := by unfold Hid; rw [HP.out, if_neg h1]
    clear HP h1
    cases q
    · go_enter Try.func42, Try.ntmps42
      go_wp2_with (go_at_call 48; refine (HE.out).mono ?_; rintro e w' ⟨rfl, m, rfl⟩)
      go_ret
      exact ⟨ret_int (by rw [HC.out]; rfl), m, rfl⟩
    · go_enter Try.func42, Try.ntmps42
      go_wp2_with (go_at_call 48; refine (HE.out).mono ?_; rintro e w' ⟨rfl, m, rfl⟩)
      go_ret
      exact ⟨ret_int (by rw [HC.out]; rfl), m, rfl⟩
theorem r8check_any (n : Int) (a : Option Addr) (cap : Nat) (ps : List (Int × Int)) (w : World) (hl : ps.length ≤ 1099511627776) (hg : Pairs w a ps) :
    Calls Try.prog 30 #[.int .i64 n, .slice a ps.length cap] w fun e w' => e = .returned (.int .i64 (openCode n ps)) ∧ ∃ m, w' = w.drewN m := by
  have HO : Hid (openCode n ps = if checkP n ps ≠ 0 then checkP n ps else if 10 < n then 2 else 0) := rfl
  have HE := Lib.hid (rcheck_any n a cap ps w hl hg)
  generalize checkP n ps = q at *
  generalize openCode n ps = c at *
  generalize ps.length = len at *
  by_cases h1 : q = 0
  · have hb : (q != 0) = false := by simp [h1]
    have HC : Hid (c = if 10 < n then 2 else 0) := by unfold Hid; rw [HO.out, if_neg (by simp [h1])]
    clear HO h1
    go_enter Try.func30, Try.ntmps30
    go_wp2_with (go_at_call 42; refine (HE.out).mono ?_; rintro e w' ⟨rfl, m, rfl⟩)
    · go_ret
      exact ⟨ret_int (by rw [HC.out, if_pos (by assumption)]), m, rfl⟩
    · go_ret
      exact ⟨ret_int (by rw [HC.out, if_neg (by omega)]), m, rfl⟩
  · have hb : (q != 0) = true := by simp [h1]
    have HC : Hid (c = q) := by unfold Hid; rw [HO.out, if_pos h1]
    clear HO h1
    go_enter Try.func30, Try.ntmps30
    go_wp2_with (go_at_call 42; refine (HE.out).mono ?_; rintro e w' ⟨rfl, m, rfl⟩)
    go_ret
    exact ⟨ret_int HC.out.symm, m, rfl⟩
theorem eq40 (W : World) : Sem.run Try.prog (Op.equalIn 10000 40 (.agg #[.int .i64 0, .int .i64 0, .int .i64 0, .int .i64 0, .int .i64 0]) (.agg #[.int .i64 0, .int .i64 0, .int .i64 0, .int .i64 0, .int .i64 0])) W = .ok true W := by kernel_rfl
set_option maxRecDepth 100000 in
set_option maxHeartbeats 1000000 in
theorem law9 (n : Int) (a : Option Addr) (cap : Nat) (ps : List (Int × Int)) (set : Int) (w : World) (h : PairsIn w a cap ps) (_ : (Lit.int .i64 n).wf = true) (_ : (Lit.int .i64 set).wf = true) :
    Calls Try.prog 9 #[.int .i64 n, .slice a ps.length cap, .int .i64 set] w fun e w' => e = .returned (.bool true) ∧ Below w.heap.size w w' := by
  have HW := Lib.hid (own_any a cap ps w h)
  generalize hq : ps.take 130 = qs at *
  have hql : qs.length ≤ 1099511627776 := by rw [← hq, List.length_take]; omega
  clear h hq
  generalize ps.length = len at *
  have hm0 : ∀ (W : World) (m : Nat), Below W.heap.size W (W.drewN m) := fun W m => below_dr (Below.refl _ _) m
  have HM := Lib.hid hm0
  clear hm0
  by_cases h0 : openCode n qs = 0
  · have H0 := Lib.hid h0
    clear h0
    go_enter Try.func9, Try.ntmps9
    go_wp2_with (first
      | (go_at_call 29; refine (HW.out).mono ?_; rintro e w1 ⟨a1, c1, rfl, hP1, hB1⟩; have HP1 := Lib.hid hP1; have HB1 := Lib.hid hB1; clear hP1 hB1; try dsimp only)
      | (go_at_call 30; refine (r8check_any n a1 c1 qs w1 hql HP1.out).mono ?_; rw [H0.out]; rintro e w2 ⟨rfl, m, hw2⟩; subst hw2; try dsimp only)
      | (go_at_call 31; refine (fcheck_any n a1 c1 qs _ hql (HP1.out.below (HM.out w1 m) (Nat.le_refl _))).mono ?_; rw [H0.out]; rintro e w3 ⟨rfl, hB3⟩; have HB3 := Lib.hid hB3; clear hB3; try dsimp only)
      | (go_at_call 17; refine (awake_any _).mono ?_; rintro e w4 ⟨rfl, hB4⟩; try dsimp only))
    go_ret
    exact ⟨rfl, ((HB1.out.trans ((HM.out w1 m).mono HB1.out.size)).trans (HB3.out.mono HB1.out.size)).trans (hB4.mono (Nat.le_trans HB1.out.size HB3.out.size))⟩
  · obtain ⟨K26, K24, K12, K14, K19, K18, K22⟩ : (Hid (∀ (W : World) (a : Option Addr) (c : Nat), Pairs W a qs → Calls Try.prog 26 #[.int .i64 n, .slice a qs.length c, .int .i64 set] W fun e w' => e = .returned (.tuple #[.bool false, .int .i64 (openCode n qs)]) ∧ Below W.heap.size W w')) ∧
        (Hid (∀ (W : World) (a : Option Addr) (c : Nat), Pairs W a qs → Calls Try.prog 24 #[.int .i64 n, .slice a qs.length c] W fun e w' => e = .returned (.tuple #[.int .i64 0, .int .i64 (openCode n qs)]) ∧ Below W.heap.size W w')) ∧
        (Hid (∀ (W : World) (a : Option Addr) (c : Nat), Pairs W a qs → Calls Try.prog 12 #[.int .i64 n, .slice a qs.length c] W fun e w' => e = .returned (.tuple #[.int .i64 0, .int .i64 (openCode n qs)]) ∧ Below W.heap.size W w')) ∧
        (Hid (∀ (W : World) (a : Option Addr) (c : Nat), Pairs W a qs → Calls Try.prog 14 #[.int .i64 n, .slice a qs.length c, .int .i64 set] W fun e w' => e = .returned (.tuple #[.slice none 0 0, .bool false, .int .i64 (openCode n qs)]) ∧ Below W.heap.size W w')) ∧
        (Hid (∀ (W : World) (a : Option Addr) (c : Nat), Pairs W a qs → Calls Try.prog 19 #[.int .i64 n, .slice a qs.length c, .int .i64 set] W fun e w' => e = .returned (.tuple #[.agg #[.int .i64 0, .int .i64 0, .int .i64 0, .int .i64 0, .int .i64 0], .bool false, .int .i64 (openCode n qs)]) ∧ Below W.heap.size W w')) ∧
        (Hid (∀ (W : World) (a : Option Addr) (c : Nat) (pa : Option Addr), Pairs W a qs → Calls Try.prog 18 #[.int .i64 n, .slice a qs.length c, .int .i64 1, .slice pa 1 1] W fun e w' => e = .returned (.bool false) ∧ Below W.heap.size W w')) ∧
        (Hid (∀ (W : World) (a : Option Addr) (c : Nat), Pairs W a qs → Calls Try.prog 22 #[.int .i64 n, .slice a qs.length c, .int .i64 1, .agg #[.int .i64 0, .int .i64 0, .int .i64 0, .int .i64 1, .int .i64 1]] W fun e w' => e = .returned (.bool false) ∧ Below W.heap.size W w')) :=
      ⟨fun W a c hP => isQuiet_err n qs a c W set hql hP h0, fun W a c hP => cover_err n qs a c W hql hP h0, fun W a c hP => least_err n qs a c W hql hP h0, fun W a c hP => plan_err n qs a c W set hql hP h0, fun W a c hP => structure_err n qs a c W set hql hP h0, fun W a c pa hP => isPlan_no n qs a c W hql hP h0 1 pa 1 1, fun W a c hP => isStructure_no n qs a c W 1 _ ⟨_, _, _, _, _, rfl⟩ hql hP h0⟩
    have HR := Lib.hid (r8check_any n · · qs · hql ·)
    have HF := Lib.hid (fcheck_any n · · qs · hql ·)
    generalize openCode n qs = c at *
    generalize qs.length = ql at *
    have hb : (c == 0) = false := by simp [h0]
    clear h0 hql
    go_enter Try.func9, Try.ntmps9
    go_upto_region 12 with (first
      | (go_at_call 29; refine (HW.out).mono ?_; rintro e w1 ⟨a1, c1, rfl, hP1, hB1⟩; have HP1 := Lib.hid hP1; have HB1 := Lib.hid hB1; clear hP1 hB1; try dsimp only)
      | (go_at_call 30; refine (HR.out a1 c1 w1 HP1.out).mono ?_; rintro e w2 ⟨rfl, m, hw2⟩; have HP2 := Lib.hid (HP1.out.below (HM.out w1 m) (Nat.le_refl _)); have HB2 := Lib.hid (HB1.out.trans ((HM.out w1 m).mono HB1.out.size)); rw [← hw2] at HP2 HB2; clear hw2; try dsimp only)
      | (go_at_call 31; refine (HF.out a1 c1 w2 HP2.out).mono ?_; rintro e w3 ⟨rfl, hB3⟩; have HP3 := Lib.hid (HP2.out.below hB3 (Nat.le_refl _)); have HB3 := Lib.hid (HB2.out.trans (hB3.mono HB2.out.size)); clear hB3; try dsimp only)
      | (go_at_call 26; refine (K26.out w3 a1 c1 HP3.out).mono ?_; rintro e w4 ⟨rfl, hB4⟩; have HP4 := Lib.hid (HP3.out.below hB4 (Nat.le_refl _)); have HB4 := Lib.hid (HB3.out.trans (hB4.mono HB3.out.size)); clear hB4; try dsimp only)
      | (go_at_call 24; refine (K24.out w4 a1 c1 HP4.out).mono ?_; rintro e w5 ⟨rfl, hB5⟩; have HP5 := Lib.hid (HP4.out.below hB5 (Nat.le_refl _)); have HB5 := Lib.hid (HB4.out.trans (hB5.mono HB4.out.size)); clear hB5; try dsimp only)
      | (go_at_call 12; refine (K12.out w5 a1 c1 HP5.out).mono ?_; rintro e w6 ⟨rfl, hB6⟩; have HP6 := Lib.hid (HP5.out.below hB6 (Nat.le_refl _)); have HB6 := Lib.hid (HB5.out.trans (hB6.mono HB5.out.size)); clear hB6; try dsimp only)
      | (go_at_call 14; refine (K14.out w6 a1 c1 HP6.out).mono ?_; rintro e w7 ⟨rfl, hB7⟩; have HP7 := Lib.hid (HP6.out.below hB7 (Nat.le_refl _)); have HB7 := Lib.hid (HB6.out.trans (hB7.mono HB6.out.size)); clear hB7; try dsimp only)
      | (go_at_call 19; refine (K19.out w7 a1 c1 HP7.out).mono ?_; rintro e w8 ⟨rfl, hB8⟩; have HP8 := Lib.hid (HP7.out.below hB8 (Nat.le_refl _)); have HB8 := Lib.hid (HB7.out.trans (hB8.mono HB7.out.size)); clear hB8; try dsimp only))
    simp only [List.append]
    have l0 : (w8.alloc (.cells #[.int .i64 0, .int .i64 0, .int .i64 0, .int .i64 0, .int .i64 0] 40)).cell? ⟨w8.heap.size, 0, none⟩ = some (.int .i64 0) := by rw [(BoxN.new (W := w8) (B := w8.heap.size) (t := 40) (vs := #[.int .i64 0, .int .i64 0, .int .i64 0, .int .i64 0, .int .i64 0]) rfl).cell]; rfl
    have hBX : Below w8.heap.size w8 (w8.alloc (.cells #[.int .i64 0, .int .i64 0, .int .i64 0, .int .i64 0, .int .i64 0] 40)) := (Below.refl _ _).alloc (Nat.le_refl _) _
    obtain ⟨m0, m1, m2, m3, m4, _⟩ := res5 (BoxN.new (W := w8) (B := w8.heap.size) (t := 40) (vs := #[.int .i64 0, .int .i64 0, .int .i64 0, .int .i64 0, .int .i64 0]) rfl)
    have HP9 := Lib.hid (HP8.out.below hBX (Nat.le_refl _))
    have HB9 := Lib.hid (HB8.out.trans (hBX.mono HB8.out.size))
    clear hBX l0
    generalize (w8.alloc (.cells #[.int .i64 0, .int .i64 0, .int .i64 0, .int .i64 0, .int .i64 0] 40)) = Y at *
    have e40 := eq40
    have hBY : Below Y.heap.size Y (Y.alloc (.cells #[.int .i64 1] 3)) := (Below.refl _ _).alloc (Nat.le_refl _) _
    have HPZ := Lib.hid (HP9.out.below hBY (Nat.le_refl _))
    have HBZ := Lib.hid (HB9.out.trans (hBY.mono HB9.out.size))
    clear hBY
    go_wp2_with (first
      | (go_at_call 18; refine (K18.out _ a1 c1 _ HPZ.out).mono ?_; rintro e wa ⟨rfl, hBa⟩; have HPa := Lib.hid (HPZ.out.below hBa (Nat.le_refl _)); have HBa := Lib.hid (HBZ.out.trans (hBa.mono HBZ.out.size)); clear hBa; try dsimp only)
      | (go_at_call 22; refine (K22.out _ a1 c1 HPa.out).mono ?_; rintro e wb ⟨rfl, hBb⟩; have HBb := Lib.hid (HBa.out.trans (hBb.mono HBa.out.size)); clear hBb; try dsimp only)
      | (go_at_call 17; refine (awake_any _).mono ?_; rintro e wc ⟨rfl, hBc⟩; have HBc := Lib.hid (HBb.out.trans (hBc.mono HBb.out.size)); clear hBc; try dsimp only))
    go_ret
    exact ⟨rfl, HBc.out⟩
end Go.Proofs.Ytfbobojpocnfeaa
