/- Check, and what Positions and Levels answer for no order: walks. A law's walk: ShiftChecks. -/
import Derived.Test.YtgpijajgaclhfaaDoorG901
set_option linter.unusedVariables false
set_option linter.unusedSimpArgs false
namespace Go.Proofs.YtgpijajgaclhfaaDoor
open Go.RowKit Go.Shelf

set_option maxRecDepth 100000 in
set_option maxHeartbeats 1000000 in
theorem Check_any (la : Option Addr) (n lc : Nat) (ln : Nat → Nat) (r : Nat → Nat → Bool) (w : World) (hn : n ≤ 1099511627776) (hT : TblI w la n ln r) :
    Calls Tryd.prog 34 #[.slice la n lc] w fun e w' => ChkA n ln r e ∧ Below w.heap.size w w' := by
  have HC := Lib.hid (open_any la n lc ln r _ hn hT)
  clear hT
  go_enter Tryd.func34, Tryd.ntmps34
  go_upto_region 2 with (go_at_call 55; refine HC.out.mono ?_; rintro e w1 ⟨ha, hB1⟩; have HB1 := Lib.hid hB1; clear hB1; rcases ha with ⟨rfl, hno⟩ | ⟨B, rfl, hok, hB, hO⟩)
  · have HNO := Lib.hid hno
    clear hno
    go_wp2
    go_ret
    exact ⟨.inr ⟨rfl, HNO.out⟩, HB1.out⟩
  · have HOK := Lib.hid hok
    clear hok hB hO
    go_wp2
    go_ret
    exact ⟨.inl ⟨rfl, HOK.out⟩, HB1.out⟩
set_option maxRecDepth 100000 in
set_option maxHeartbeats 1000000 in
theorem Positions_bad (la : Option Addr) (n lc : Nat) (ln : Nat → Nat) (r : Nat → Nat → Bool) (w : World) (hn : n ≤ 1099511627776) (hbad : ¬ TabOK n ln r) (hT : TblI w la n ln r) :
    Calls Tryd.prog 44 #[.slice la n lc] w fun e w' => e = .returned (.tuple #[.slice none 0 0, .int .i64 0, .int .i64 100]) ∧ Below w.heap.size w w' := by
  have HC := Lib.hid (open_any la n lc ln r _ hn hT)
  have HBAD := Lib.hid hbad
  clear hT hbad
  go_enter Tryd.func44, Tryd.ntmps44
  go_upto_region 2 with (go_at_call 55; refine HC.out.mono ?_; rintro e w1 ⟨ha, hB1⟩; have HB1 := Lib.hid hB1; clear hB1; rcases ha with ⟨rfl, hno⟩ | ⟨B, rfl, hok, hB, hO⟩)
  · clear hno
    go_wp2
    refine bodyPost_ret (v := .tuple #[.slice none 0 0, .int .i64 0, .int .i64 100]) (by simp [results, Tryd.f44, go_sem]) rfl ?_
    exact ⟨rfl, HB1.out⟩
  · exact absurd hok HBAD.out
set_option maxRecDepth 100000 in
set_option maxHeartbeats 1000000 in
theorem Levels_bad (la : Option Addr) (n lc : Nat) (ln : Nat → Nat) (r : Nat → Nat → Bool) (w : World) (hn : n ≤ 1099511627776) (hbad : ¬ TabOK n ln r) (hT : TblI w la n ln r) :
    Calls Tryd.prog 46 #[.slice la n lc] w fun e w' => e = .returned (.tuple #[.slice none 0 0, .int .i64 100]) ∧ Below w.heap.size w w' := by
  have HB0 : Hid (Below w.heap.size w (w.alloc (.cells #[.slice none 0 0] 28))) := (Below.refl _ _).alloc (Nat.le_refl _) _
  have HX0 : Hid (BoxN (w.alloc (.cells #[.slice none 0 0] 28)) w.heap.size 28 #[.slice none 0 0]) := BoxN.new rfl
  have HBAD := Lib.hid hbad
  have HT := Lib.hid (hT.below HB0.out (Nat.le_refl _))
  clear hT hbad
  obtain ⟨X, hX⟩ : ∃ X, Hid (X = w.alloc (.cells #[.slice none 0 0] 28)) := ⟨_, rfl⟩
  rw [← hX.out] at HB0 HX0 HT
  have hsX := HX0.out.lt
  have HB1 : Hid (Below X.heap.size X (X.alloc (.cells #[.int .i64 0] 25))) := (Below.refl _ _).alloc (Nat.le_refl _) _
  have HX1 : Hid (BoxN (X.alloc (.cells #[.int .i64 0] 25)) X.heap.size 25 #[.int .i64 0]) := BoxN.new rfl
  have HC := Lib.hid (open_any la n lc ln r _ hn (HT.out.below HB1.out (Nat.le_refl _)))
  clear HT
  go_enter Tryd.func46, Tryd.ntmps46
  go_upto_region 1 with (fail)
  rw [← hX.out]
  have e1 : w.heap.size + 1 = X.heap.size := by rw [hX.out]; simp
  have HB2 := Lib.hid (HB0.out.trans (HB1.out.mono HB0.out.size))
  have HX2 := Lib.hid (HX0.out.below HB1.out hsX)
  have hY := HX1.out.lt
  have hY2 := HX2.out.lt
  simp only [e1]
  generalize X.alloc (.cells #[.int .i64 0] 25) = Y at *
  obtain ⟨bb, hbb⟩ : ∃ bb, Hid (bb = X.heap.size) := ⟨_, rfl⟩
  rw [← hbb.out] at HX1 hY ⊢
  obtain ⟨ba, hba⟩ : ∃ ba, Hid (ba = w.heap.size) := ⟨_, rfl⟩
  rw [← hba.out] at HX2 hY2 ⊢
  have hwY : w.heap.size ≤ Y.heap.size := HB2.out.size
  have HAB : Hid (ba ≠ bb) := by rw [hba.out, hbb.out]; unfold Hid; omega
  have HLE : Hid (w.heap.size ≤ ba ∧ w.heap.size ≤ bb) := by rw [hba.out, hbb.out]; unfold Hid; omega
  clear HX0 HB0 HB1 e1
  go_upto_region 2 with (go_at_call 55; refine HC.out.mono ?_; rintro e w1 ⟨ha, hB1⟩; have HB3 := Lib.hid (HB2.out.trans (hB1.mono hwY)); have HXA := Lib.hid (HX2.out.below hB1 hY2); have HXB := Lib.hid (HX1.out.below hB1 hY); clear hB1; rcases ha with ⟨rfl, hno⟩ | ⟨B, rfl, hok, hB, hO⟩)
  · clear hno HC HX1 HX2
    have hsz : w.heap.size ≤ w1.heap.size := HB3.out.size
    have hA1 := HXA.out.lt
    have hB1 := HXB.out.lt
    have HBA : Hid (Below w1.heap.size w1 (w1.alloc (.cells #[.pointer none] 81))) := (Below.refl _ _).alloc (Nat.le_refl _) _
    have HXA3 := Lib.hid (HXA.out.below HBA.out hA1)
    have HXB3 := Lib.hid (HXB.out.below HBA.out hB1)
    have HB4 := Lib.hid (HB3.out.trans (HBA.out.mono hsz))
    go_upto_region 3 with (fail)
    generalize w1.alloc (.cells #[.pointer none] 81) = Z at *
    have k1 : Z.cell? ⟨ba, 0, none⟩ = some (.slice none 0 0) := by rw [HXA3.out.cell]; rfl
    have f1 := HXA3.out.frozen 0
    have hXA4 := HXA3.out.set 0 (.slice none 0 0)
    have hA : Ag (· = ba) Z (Z.setCell ⟨ba, 0, none⟩ (.slice none 0 0)) := (Ag.refl _ Z).set ⟨ba, 0, none⟩ _ (.inr rfl)
    have hXB4 := hA.boxN HXB3.out (fun e => HAB.out e.symm)
    have k2 : (Z.setCell ⟨ba, 0, none⟩ (.slice none 0 0)).cell? ⟨bb, 0, none⟩ = some (.int .i64 0) := by rw [hXB4.cell]; rfl
    have f2 := hXB4.frozen 0
    have hXB5 := hXB4.set 0 (.int .i64 100)
    have hA5 : Ag (· = bb) (Z.setCell ⟨ba, 0, none⟩ (.slice none 0 0)) ((Z.setCell ⟨ba, 0, none⟩ (.slice none 0 0)).setCell ⟨bb, 0, none⟩ (.int .i64 100)) := (Ag.refl _ _).set ⟨bb, 0, none⟩ _ (.inr rfl)
    have hXA5 := hA5.boxN hXA4 HAB.out
    have r1 : ((Z.setCell ⟨ba, 0, none⟩ (.slice none 0 0)).setCell ⟨bb, 0, none⟩ (.int .i64 100)).cell? ⟨ba, 0, none⟩ = some (.slice none 0 0) := by rw [hXA5.cell]; rfl
    have r2 : ((Z.setCell ⟨ba, 0, none⟩ (.slice none 0 0)).setCell ⟨bb, 0, none⟩ (.int .i64 100)).cell? ⟨bb, 0, none⟩ = some (.int .i64 100) := by rw [hXB5.cell]; rfl
    have HB5 : Hid (Below w.heap.size w ((Z.setCell ⟨ba, 0, none⟩ (.slice none 0 0)).setCell ⟨bb, 0, none⟩ (.int .i64 100))) := (HB4.out.setCell (p := ⟨ba, 0, none⟩) HLE.out.1 _).setCell (p := ⟨bb, 0, none⟩) HLE.out.2 _
    clear hA hXB4 hXA4 hXB5 hXA5 hA5
    go_wp2
    refine bodyPost_ret (v := .tuple #[.slice none 0 0, .int .i64 100]) (by simp [results, Tryd.f46, go_sem, r1, r2]) rfl ?_
    exact ⟨rfl, HB5.out⟩
  · exact absurd hok HBAD.out
end Go.Proofs.YtgpijajgaclhfaaDoor
namespace Go.Proofs.YtgpijajgaclhfaaDoor
open Go.RowKit Go.Shelf

theorem src_zero (W : World) {vs : Array Value} {m : Nat} (h : ∀ j, j < m → vs[j]? = some (.int .i64 0)) : SrcI (W.alloc (.cells vs 3)) (some ⟨W.heap.size, 0, none⟩) m (fun _ => 0) := fun _ =>
  ⟨W.heap.size, 0, rfl, by simp, fun j hj => by rw [Nat.zero_add, (BoxN.new (W := W) (t := 3) (vs := vs) rfl).cell j]; exact h j hj⟩
set_option maxRecDepth 100000 in
set_option maxHeartbeats 8000000 in
theorem law12 (a : Option Addr) (n cap : Nat) (ln : Nat → Nat) (r : Nat → Nat → Bool) (w : World) (hP : TabIn w a n cap ln r) (hT : Tab w) :
    Calls Tryd.prog 12 #[.slice a n cap] w fun e w' => e = .returned (.bool true) ∧ Below w.heap.size w w' := by
  have HTA := Lib.hid (table_any a n cap ln r w hP)
  have HTB := Lib.hid hT
  clear hP hT
  obtain ⟨m, hm⟩ : ∃ m, Hid (m = min n 14) := ⟨_, rfl⟩
  rw [← hm.out] at HTA
  have hm14 : m ≤ 14 := by rw [hm.out]; omega
  obtain ⟨l2, hl2⟩ : ∃ l2 : Nat → Nat, Hid (l2 = fun i => min (ln i) 14) := ⟨_, rfl⟩
  rw [← hl2.out] at HTA
  clear hm hl2
  go_enter Tryd.func12, Tryd.ntmps12
  go_upto_region 2 with (go_at_call 49; refine HTA.out.mono ?_; rintro e w1 ⟨v1, rfl, hT1, hB1⟩; obtain ⟨p1, c1, rfl⟩ := hT1.isSlice; have HT1 := Lib.hid hT1.tbl; have HB1 := Lib.hid hB1; clear hT1 hB1)
  clear HTA
  have hsz1 : w.heap.size ≤ w1.heap.size := HB1.out.size
  have HCK := Lib.hid (rCheck_any p1 m c1 l2 r w1 (by omega) HT1.out)
  have HCH := Lib.hid (Check_any p1 m c1 l2 r w1 (by omega) HT1.out)
  by_cases hok : TabOK m l2 r
  · have HOK := Lib.hid hok
    clear hok
    have HK0 : Hid (∀ e, ChkA m l2 r e → e = .returned (.int .i64 0)) := fun e h => h.elim (fun h => h.1) (fun h => absurd HOK.out h.2)
    go_wp2_with (first
      | (go_at_call 50; refine HCK.out.mono ?_; rintro e w2 ⟨h2, hw2⟩; replace h2 := HK0.out _ h2; subst h2; subst hw2; have HT2 := Lib.hid (HTB.out.below HB1.out (Nat.le_refl _)))
      | (go_at_call 34; refine HCH.out.mono ?_; rintro e w3 ⟨h3, hB3⟩; replace h3 := HK0.out _ h3; subst h3; have HT3 := Lib.hid (HT2.out.below hB3 (Nat.le_refl _)); have HB3 := Lib.hid (HB1.out.trans (hB3.mono hsz1)); clear hB3)
      | (go_at_call 17; refine (awake_any _ HT3.out).mono ?_; rintro e w9 ⟨rfl, hB9⟩; have HB9 := Lib.hid (HB3.out.trans (hB9.mono HB3.out.size)); clear hB9))
    go_ret
    exact ⟨rfl, HB9.out⟩
  · have HK0 : Hid (∀ e, ChkA m l2 r e → e = .returned (.int .i64 100)) := fun e h => h.elim (fun h => absurd h.2 hok) (fun h => h.1)
    have HTT := Lib.hid (fun W (hW : Below w1.heap.size w1 W) => HT1.out.below hW (Nat.le_refl _))
    have HTW := Lib.hid (fun W (hW : Below w1.heap.size w1 W) => HTB.out.below (HB1.out.trans (hW.mono hsz1)) (Nat.le_refl _))
    have H23 : Hid (∀ W, Below w1.heap.size w1 W → Calls Tryd.prog 23 #[.slice p1 m c1] W fun e w' => e = .returned (.tuple #[.int .i64 0, .int .i64 100]) ∧ Below W.heap.size W w') := fun W hW => (Magnitude_any p1 m c1 l2 r W (by omega) (HTT.out W hW)).mono fun e w' h => ⟨h.1.elim (fun h => h.1) (fun ⟨_, _, h, _⟩ => absurd h hok), h.2⟩
    have H24 : Hid (∀ W, Below w1.heap.size w1 W → Calls Tryd.prog 24 #[.slice p1 m c1] W fun e w' => e = .returned (.tuple #[.slice none 0 0, .int .i64 100]) ∧ Below W.heap.size W w') := fun W hW => (Intervals_any p1 m c1 l2 r W (by omega) (HTW.out W hW) (HTT.out W hW)).mono fun e w' h => ⟨h.1.elim (fun h => h.1) (fun h => h.elim (fun h => absurd h.2.1 hok) (fun ⟨_, _, _, h, _⟩ => absurd h hok)), h.2⟩
    have H25 : Hid (∀ W, Below w1.heap.size w1 W → Calls Tryd.prog 25 #[.slice p1 m c1] W fun e w' => e = .returned (.tuple #[.agg #[.int .i64 0, .int .i64 0, .int .i64 0, .int .i64 0], .bool false, .int .i64 100]) ∧ Below W.heap.size W w') := fun W hW => (TwoTwo_any p1 m c1 l2 r W (by omega) (HTW.out W hW) (HTT.out W hW)).mono fun e w' h => ⟨h.1.elim (fun h => h.1) (fun h => h.elim (fun ⟨_, _, _, _, _, h, _⟩ => absurd h hok) (fun h => absurd h.2.1 hok)), h.2⟩
    have H45 : Hid (∀ W, Below w1.heap.size w1 W → Calls Tryd.prog 45 #[.slice p1 m c1] W fun e w' => e = .returned (.tuple #[.agg #[.int .i64 0, .int .i64 0, .int .i64 0, .int .i64 0], .bool false, .int .i64 100]) ∧ Below W.heap.size W w') := fun W hW => (ThreeOne_any p1 m c1 l2 r W (by omega) (HTW.out W hW) (HTT.out W hW)).mono fun e w' h => ⟨h.1.elim (fun h => h.1) (fun h => h.elim (fun ⟨_, _, _, _, _, h, _⟩ => absurd h hok) (fun h => absurd h.2.1 hok)), h.2⟩
    have H44 := Lib.hid (fun W (hW : Below w1.heap.size w1 W) => Positions_bad p1 m c1 l2 r W (by omega) hok (HTT.out W hW))
    have H46 := Lib.hid (fun W (hW : Below w1.heap.size w1 W) => Levels_bad p1 m c1 l2 r W (by omega) hok (HTT.out W hW))
    have H29 : Hid (∀ W, Below w1.heap.size w1 W → Calls Tryd.prog 29 #[.slice p1 m c1, .agg #[.int .i64 0, .int .i64 0, .int .i64 0, .int .i64 0]] W fun e w' => e = .returned (.bool false) ∧ Below W.heap.size W w') := fun W hW => (IsTwoTwo_any p1 m c1 l2 r 0 0 0 0 W (by omega) (HTT.out W hW)).mono fun e w' h => ⟨h.1.dec (b := false) ⟨fun h => (by cases h), fun h => absurd h.1 hok⟩, h.2⟩
    have H40 : Hid (∀ W, Below w1.heap.size w1 W → Calls Tryd.prog 40 #[.slice p1 m c1, .agg #[.int .i64 0, .int .i64 0, .int .i64 0, .int .i64 0]] W fun e w' => e = .returned (.bool false) ∧ Below W.heap.size W w') := fun W hW => (IsThreeOne_any p1 m c1 l2 r 0 0 0 0 W (by omega) (HTT.out W hW)).mono fun e w' h => ⟨h.1.dec (b := false) ⟨fun h => (by cases h), fun h => absurd h.1 hok⟩, h.2⟩
    have H42 : Hid (∀ W p, Below w1.heap.size w1 W → SrcI W p m (fun _ => 0) → Calls Tryd.prog 42 #[.slice p1 m c1, .slice p m m, .int .i64 0] W fun e w' => e = .returned (.bool false) ∧ Below W.heap.size W w') := fun W p hW hS => (pRep_any p1 p m c1 m m l2 r (fun _ => 0) 0 W (by omega) (HTT.out W hW) hS).mono fun e w' h => ⟨h.1.dec (b := false) ⟨fun h => (by cases h), fun h => absurd h.tab hok⟩, h.2⟩
    clear hok
    have HB := Lib.hid (Below.refl w1.heap.size w1)
    go_upto_region 9 with (first
      | (go_at_call 50; refine HCK.out.mono ?_; rintro e w2 ⟨h2, hw2⟩; replace h2 := HK0.out _ h2; subst h2; replace hw2 := hw2.symm; subst hw2)
      | (go_at_call 34; refine HCH.out.mono ?_; rintro e w3 ⟨h3, hB3⟩; replace h3 := HK0.out _ h3; subst h3; have HB3 := Lib.hid hB3; clear hB3 HCH)
      | (go_at_call 23; refine (H23.out _ HB3.out).mono ?_; rintro e w4 ⟨rfl, hB4⟩; have HB4 := Lib.hid (HB3.out.trans (hB4.mono HB3.out.size)); clear hB4 HB3)
      | (go_at_call 24; refine (H24.out _ HB4.out).mono ?_; rintro e w5 ⟨rfl, hB5⟩; have HB5 := Lib.hid (HB4.out.trans (hB5.mono HB4.out.size)); clear hB5 HB4))
    go_upto_region 10 with (go_at_call 25; refine (H25.out _ HB5.out).mono ?_; rintro e w6 ⟨rfl, hB6⟩; have HB6 := Lib.hid (HB5.out.trans (hB6.mono HB5.out.size)); clear hB6 HB5)
    have HX9 : Hid (BoxN (w6.alloc (.cells #[.int .i64 0, .int .i64 0, .int .i64 0, .int .i64 0] 45)) w6.heap.size 45 #[.int .i64 0, .int .i64 0, .int .i64 0, .int .i64 0]) := BoxN.new rfl
    have HB7 : Hid (Below w1.heap.size w1 (w6.alloc (.cells #[.int .i64 0, .int .i64 0, .int .i64 0, .int .i64 0] 45))) := HB6.out.alloc HB6.out.size _
    generalize w6.alloc (.cells #[.int .i64 0, .int .i64 0, .int .i64 0, .int .i64 0] 45) = w7 at *
    obtain ⟨b9, hb9⟩ : ∃ b9, Hid (b9 = w6.heap.size) := ⟨_, rfl⟩
    rw [← hb9.out] at HX9 ⊢
    clear hb9 HB6
    have hx9 := HX9.out.lt
    go_upto_region 11 with (go_at_call 44; refine (H44.out _ HB7.out).mono ?_; rintro e w8 ⟨rfl, hB8⟩; have HX8 := Lib.hid (HX9.out.below hB8 hx9); have HB8 := Lib.hid (HB7.out.trans (hB8.mono HB7.out.size)); clear hB8 HB7 HX9)
    have hx8 := HX8.out.lt
    go_upto_region 12 with (go_at_call 45; refine (H45.out _ HB8.out).mono ?_; rintro e w9 ⟨rfl, hB9⟩; have HX9 := Lib.hid (HX8.out.below hB9 hx8); have HB9 := Lib.hid (HB8.out.trans (hB9.mono HB8.out.size)); clear hB9 HB8 HX8)
    have hx9 := HX9.out.lt
    have HXA : Hid (BoxN (w9.alloc (.cells #[.int .i64 0, .int .i64 0, .int .i64 0, .int .i64 0] 45)) w9.heap.size 45 #[.int .i64 0, .int .i64 0, .int .i64 0, .int .i64 0]) := BoxN.new rfl
    have HX10 := Lib.hid (HX9.out.alloc (.cells #[.int .i64 0, .int .i64 0, .int .i64 0, .int .i64 0] 45))
    have HB10 : Hid (Below w1.heap.size w1 (w9.alloc (.cells #[.int .i64 0, .int .i64 0, .int .i64 0, .int .i64 0] 45))) := HB9.out.alloc HB9.out.size _
    generalize w9.alloc (.cells #[.int .i64 0, .int .i64 0, .int .i64 0, .int .i64 0] 45) = V at *
    obtain ⟨b15, hb15⟩ : ∃ b15, Hid (b15 = w9.heap.size) := ⟨_, rfl⟩
    rw [← hb15.out] at HXA ⊢
    clear hb15 HB9 HX9
    have hxA := HXA.out.lt
    have hx10 := HX10.out.lt
    have H9 : Hid (∀ W, Below V.heap.size V W → W.cell? ⟨b9, 0, none⟩ = some (.int .i64 0) ∧ W.cell? ⟨b9, 1, none⟩ = some (.int .i64 0) ∧ W.cell? ⟨b9, 2, none⟩ = some (.int .i64 0) ∧ W.cell? ⟨b9, 3, none⟩ = some (.int .i64 0)) := fun W hW => by
      have h := HX10.out.below hW hx10
      exact ⟨(h.cell 0).trans rfl, (h.cell 1).trans rfl, (h.cell 2).trans rfl, (h.cell 3).trans rfl⟩
    have H15 : Hid (∀ W, Below V.heap.size V W → W.cell? ⟨b15, 0, none⟩ = some (.int .i64 0) ∧ W.cell? ⟨b15, 1, none⟩ = some (.int .i64 0) ∧ W.cell? ⟨b15, 2, none⟩ = some (.int .i64 0) ∧ W.cell? ⟨b15, 3, none⟩ = some (.int .i64 0)) := fun W hW => by
      have h := HXA.out.below hW hxA
      exact ⟨(h.cell 0).trans rfl, (h.cell 1).trans rfl, (h.cell 2).trans rfl, (h.cell 3).trans rfl⟩
    have HBV : Hid (∀ W, Below V.heap.size V W → Below w1.heap.size w1 W) := fun W hW => HB10.out.trans (hW.mono HB10.out.size)
    obtain ⟨vs, hv1, hv2, hmk⟩ := make_28 m (by omega)
    have HVS : Hid (vs.size = m ∧ ∀ j, j < m → vs[j]? = some (.int .i64 0)) := ⟨hv1, hv2⟩
    clear hv1 hv2 HX10 HXA
    have HR := Lib.hid (Below.refl V.heap.size V)
    go_wp2_with (first
      | (go_at_call 46; refine (H46.out _ (HBV.out _ HR.out)).mono ?_; rintro e wa ⟨rfl, hBa⟩; have HBa := Lib.hid hBa; clear hBa HR; obtain ⟨ka0, ka1, ka2, ka3⟩ := H9.out _ HBa.out; obtain ⟨kb0, kb1, kb2, kb3⟩ := H15.out _ HBa.out)
      | (go_at_call 29; refine (H29.out _ (HBV.out _ HBa.out)).mono ?_; rintro e wb ⟨rfl, hBb⟩; have HBb := Lib.hid (HBa.out.trans (hBb.mono HBa.out.size)); clear hBb HBa; obtain ⟨kc0, kc1, kc2, kc3⟩ := H9.out _ HBb.out)
      | (go_at_call 40; refine (H40.out _ (HBV.out _ HBb.out)).mono ?_; rintro e wc ⟨rfl, hBc⟩; have HBc := Lib.hid (HBb.out.trans (hBc.mono HBb.out.size)); clear hBc HBb)
      | (go_at_call 42; refine (H42.out _ _ (HBV.out _ (HBc.out.alloc HBc.out.size _)) (src_zero wc HVS.out.2)).mono ?_; rintro e wd ⟨rfl, hBd⟩; have HBd := Lib.hid ((HBc.out.alloc HBc.out.size (.cells vs 3)).trans (hBd.mono (by simp; have := HBc.out.size; omega))); clear hBd HBc)
      | (go_at_call 17; refine (awake_any _ (HTW.out _ (HBV.out _ HBd.out))).mono ?_; rintro e we ⟨rfl, hBe⟩; have HBe := Lib.hid (HBd.out.trans (hBe.mono HBd.out.size)); clear hBe HBd))
    go_ret
    exact ⟨rfl, HB1.out.trans ((HBV.out _ HBe.out).mono hsz1)⟩
end Go.Proofs.YtgpijajgaclhfaaDoor
