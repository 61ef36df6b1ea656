/- The document's two and two, three and one: walks. The document's search for a two and two, and a three and one; its magnitude: walks. The document's magnitude and canonical intervals, the law's comparison of intervals: walks. A law's walk: ShiftIntervals. Fishburn in plain text: how many different ends intervals have. How many different ends intervals have: the law's walk. A law's walk: ShiftFrom. -/
import Derived.Test.YtgpijajgaclhfaaDoorG1117
import Derived.Test.YtgpijajgaclhfaaDoorG1115
import Derived.Test.YtgpijajgaclhfaaDoorG1108
set_option linter.unusedVariables false
set_option linter.unusedSimpArgs false
namespace Go.Proofs.YtgpijajgaclhfaaDoor
open Go.RowKit Go.Shelf

set_option maxRecDepth 100000 in
set_option maxHeartbeats 8000000 in
theorem rTT_any (la : Option Addr) (n lc : Nat) (r : Nat → Nat → Bool) (a b c d : Int) (w : World) (hn : n ≤ 1000) (hT : TblI w la n (fun _ => n) r) :
    Calls Tryd.prog 28 #[.slice la n lc, .agg #[.int .i64 a, .int .i64 b, .int .i64 c, .int .i64 d]] w fun e w' => BoolP (In4 n a b c d ∧ TwoTwo n r a.toNat b.toNat c.toNat d.toNat) e ∧ Below w.heap.size w w' := by
  have HB0 : Hid (Below w.heap.size w (w.alloc (.cells #[.int .i64 a, .int .i64 b, .int .i64 c, .int .i64 d] 45))) := (Below.refl _ _).alloc (Nat.le_refl _) _
  have HX0 : Hid (BoxN (w.alloc (.cells #[.int .i64 a, .int .i64 b, .int .i64 c, .int .i64 d] 45)) w.heap.size 45 #[.int .i64 a, .int .i64 b, .int .i64 c, .int .i64 d]) := BoxN.new rfl
  have HT := Lib.hid (hT.below HB0.out (Nat.le_refl _))
  clear hT
  go_enter Tryd.func28, Tryd.ntmps28
  go_upto_region 1 with (fail)
  obtain ⟨b1, hb1⟩ : ∃ b1, Hid (b1 = w.heap.size) := ⟨_, rfl⟩
  rw [← hb1.out] at HX0
  simp only [← hb1.out]
  have hwX : w.heap.size ≤ (w.alloc (.cells #[.int .i64 a, .int .i64 b, .int .i64 c, .int .i64 d] 45)).heap.size := HB0.out.size
  generalize w.alloc (.cells #[.int .i64 a, .int .i64 b, .int .i64 c, .int .i64 d] 45) = X at *
  have hbX := HX0.out.lt
  have r0 : ∀ D : BW X.heap.size X, D.w.cell? ⟨b1, 0, none⟩ = some (.int .i64 a) := fun D => (D.b.cell (p := ⟨b1, 0, none⟩) hbX).trans (by rw [HX0.out.cell]; rfl)
  have r1 : ∀ D : BW X.heap.size X, D.w.cell? ⟨b1, 1, none⟩ = some (.int .i64 b) := fun D => (D.b.cell (p := ⟨b1, 1, none⟩) hbX).trans (by rw [HX0.out.cell]; rfl)
  have r2 : ∀ D : BW X.heap.size X, D.w.cell? ⟨b1, 2, none⟩ = some (.int .i64 c) := fun D => (D.b.cell (p := ⟨b1, 2, none⟩) hbX).trans (by rw [HX0.out.cell]; rfl)
  have r3 : ∀ D : BW X.heap.size X, D.w.cell? ⟨b1, 3, none⟩ = some (.int .i64 d) := fun D => (D.b.cell (p := ⟨b1, 3, none⟩) hbX).trans (by rw [HX0.out.cell]; rfl)
  have HIN := Lib.hid (fun W => inside_any la n lc a b c d W)
  try simp only [List.append]
  by_cases hin : In4 n a b c d
  · have HE : Hid (∀ D : BW X.heap.size X, Calls Tryd.prog 60 #[.slice la n lc, .agg #[.int .i64 a, .int .i64 b, .int .i64 c, .int .i64 d]] D.w fun e w' => e = .returned (.bool true) ∧ ∃ d' : BW X.heap.size X, w' = d'.w) := fun D => Calls.bw ((HIN.out D.w).mono fun e w' h => ⟨h.1.dec (b := true) ⟨fun _ => hin, fun _ => rfl⟩, D.b.trans (h.2.mono D.b.size)⟩)
    have HI4 := Lib.hid hin
    obtain ⟨x0, rfl⟩ := Int.eq_ofNat_of_zero_le hin.1.1
    obtain ⟨x1, rfl⟩ := Int.eq_ofNat_of_zero_le hin.2.1.1
    obtain ⟨x2, rfl⟩ := Int.eq_ofNat_of_zero_le hin.2.2.1.1
    obtain ⟨x3, rfl⟩ := Int.eq_ofNat_of_zero_le hin.2.2.2.1
    have l0 : x0 < n := by have := hin.1.2; omega
    have l1 : x1 < n := by have := hin.2.1.2; omega
    have l2 : x2 < n := by have := hin.2.2.1.2; omega
    have l3 : x3 < n := by have := hin.2.2.2.2; omega
    have g0 : (x0 : Int) < (n : Int) := by omega
    have g1 : (x1 : Int) < (n : Int) := by omega
    have g2 : (x2 : Int) < (n : Int) := by omega
    have g3 : (x3 : Int) < (n : Int) := by omega
    have n0 : (0 : Int) ≤ (x0 : Int) := by omega
    have n1 : (0 : Int) ≤ (x1 : Int) := by omega
    have n2 : (0 : Int) ≤ (x2 : Int) := by omega
    have n3 : (0 : Int) ≤ (x3 : Int) := by omega
    clear hin HIN
    have HTT : Hid (TwoTwo n r x0 x1 x2 x3 ↔ r x0 x1 = true ∧ r x2 x3 = true ∧ r x0 x3 = false ∧ r x2 x1 = false) := ⟨fun h => h.2.2.2.2, fun h => ⟨l0, l1, l2, l3, h⟩⟩
    obtain ⟨b, o, p, o2, c, rfl, hb, hp, k1, hc1⟩ := HT.out.at l0
    obtain ⟨b', o', p', o2', c', e, hb', hp', k2, hc2⟩ := HT.out.at l2
    cases e
    have s0 : ∀ D : BW X.heap.size X, D.w.cell? ⟨b, o + x0, none⟩ = some (.slice (some ⟨p, o2, none⟩) n c) := fun D => D.cell hb k1
    have s1 : ∀ D : BW X.heap.size X, D.w.cell? ⟨b, o + x2, none⟩ = some (.slice (some ⟨p', o2', none⟩) n c') := fun D => D.cell hb k2
    have t0 : ∀ D : BW X.heap.size X, D.w.cell? ⟨p, o2 + x1, none⟩ = some (.bool (r x0 x1)) := fun D => D.cell hp (hc1 x1 l1)
    have t1 : ∀ D : BW X.heap.size X, D.w.cell? ⟨p, o2 + x3, none⟩ = some (.bool (r x0 x3)) := fun D => D.cell hp (hc1 x3 l3)
    have t2 : ∀ D : BW X.heap.size X, D.w.cell? ⟨p', o2' + x3, none⟩ = some (.bool (r x2 x3)) := fun D => D.cell hp' (hc2 x3 l3)
    have t3 : ∀ D : BW X.heap.size X, D.w.cell? ⟨p', o2' + x1, none⟩ = some (.bool (r x2 x1)) := fun D => D.cell hp' (hc2 x1 l1)
    clear k1 k2 hc1 hc2 HT HX0
    generalize r x0 x1 = v1 at *
    generalize r x2 x3 = v2 at *
    generalize r x0 x3 = v3 at *
    generalize r x2 x1 = v4 at *
    cases v1
    · have HF : Hid (¬ TwoTwo n r x0 x1 x2 x3) := fun h => by have := (HTT.out.1 h).1; cases this
      clear HTT
      refine wp_region_bw (by kernel_rfl) (by kernel_rfl) ?_
      repeat (go_big_quiet_step ((first
        | rfl
        | (go_at_call 60; exact HE.out _))))
      refine wpQuiet_nil ?_
      rintro _ ⟨d, rfl⟩
      go_wp2
      go_ret
      exact ⟨BoolP.no fun h => HF.out h.2, HB0.out.trans (d.b.mono hwX)⟩
    cases v2
    · have HF : Hid (¬ TwoTwo n r x0 x1 x2 x3) := fun h => by have := (HTT.out.1 h).2.1; cases this
      clear HTT
      refine wp_region_bw (by kernel_rfl) (by kernel_rfl) ?_
      repeat (go_big_quiet_step ((first
        | rfl
        | (go_at_call 60; exact HE.out _))))
      refine wpQuiet_nil ?_
      rintro _ ⟨d, rfl⟩
      go_wp2
      go_ret
      exact ⟨BoolP.no fun h => HF.out h.2, HB0.out.trans (d.b.mono hwX)⟩
    cases v3
    rotate_left
    · have HF : Hid (¬ TwoTwo n r x0 x1 x2 x3) := fun h => by have := (HTT.out.1 h).2.2.1; cases this
      clear HTT
      refine wp_region_bw (by kernel_rfl) (by kernel_rfl) ?_
      repeat (go_big_quiet_step ((first
        | rfl
        | (go_at_call 60; exact HE.out _))))
      refine wpQuiet_nil ?_
      rintro _ ⟨d, rfl⟩
      go_wp2
      go_ret
      exact ⟨BoolP.no fun h => HF.out h.2, HB0.out.trans (d.b.mono hwX)⟩
    cases v4
    rotate_left
    · have HF : Hid (¬ TwoTwo n r x0 x1 x2 x3) := fun h => by have := (HTT.out.1 h).2.2.2; cases this
      clear HTT
      refine wp_region_bw (by kernel_rfl) (by kernel_rfl) ?_
      repeat (go_big_quiet_step ((first
        | rfl
        | (go_at_call 60; exact HE.out _))))
      refine wpQuiet_nil ?_
      rintro _ ⟨d, rfl⟩
      go_wp2
      go_ret
      exact ⟨BoolP.no fun h => HF.out h.2, HB0.out.trans (d.b.mono hwX)⟩
    have HY : Hid (TwoTwo n r x0 x1 x2 x3) := HTT.out.2 ⟨rfl, rfl, rfl, rfl⟩
    clear HTT
    refine wp_region_bw (by kernel_rfl) (by kernel_rfl) ?_
    repeat (go_big_quiet_step ((first
      | rfl
      | (go_at_call 60; exact HE.out _))))
    refine wpQuiet_nil ?_
    rintro _ ⟨d, rfl⟩
    go_wp2
    go_ret
    exact ⟨BoolP.yes ⟨HI4.out, HY.out⟩, HB0.out.trans (d.b.mono hwX)⟩
  · have HE : Hid (∀ D : BW X.heap.size X, Calls Tryd.prog 60 #[.slice la n lc, .agg #[.int .i64 a, .int .i64 b, .int .i64 c, .int .i64 d]] D.w fun e w' => e = .returned (.bool false) ∧ ∃ d' : BW X.heap.size X, w' = d'.w) := fun D => Calls.bw ((HIN.out D.w).mono fun e w' h => ⟨h.1.dec (b := false) ⟨(fun h => by cases h), fun h => absurd h hin⟩, D.b.trans (h.2.mono D.b.size)⟩)
    have HI4 := Lib.hid hin
    clear hin HIN
    refine wp_region_bw (by kernel_rfl) (by kernel_rfl) ?_
    repeat (go_big_quiet_step ((first
      | rfl
      | (go_at_call 60; exact HE.out _))))
    refine wpQuiet_nil ?_
    rintro _ ⟨d, rfl⟩
    go_wp2
    go_ret
    exact ⟨BoolP.no fun h => HI4.out h.1, HB0.out.trans (d.b.mono hwX)⟩
set_option maxRecDepth 100000 in
set_option maxHeartbeats 8000000 in
theorem rTO_any (la : Option Addr) (n lc : Nat) (r : Nat → Nat → Bool) (a b c d : Int) (w : World) (hn : n ≤ 1000) (hT : TblI w la n (fun _ => n) r) :
    Calls Tryd.prog 41 #[.slice la n lc, .agg #[.int .i64 a, .int .i64 b, .int .i64 c, .int .i64 d]] w fun e w' => BoolP (In4 n a b c d ∧ ThreeOne n r a.toNat b.toNat c.toNat d.toNat) e ∧ Below w.heap.size w w' := by
  have HB0 : Hid (Below w.heap.size w (w.alloc (.cells #[.int .i64 a, .int .i64 b, .int .i64 c, .int .i64 d] 45))) := (Below.refl _ _).alloc (Nat.le_refl _) _
  have HX0 : Hid (BoxN (w.alloc (.cells #[.int .i64 a, .int .i64 b, .int .i64 c, .int .i64 d] 45)) w.heap.size 45 #[.int .i64 a, .int .i64 b, .int .i64 c, .int .i64 d]) := BoxN.new rfl
  have HT := Lib.hid (hT.below HB0.out (Nat.le_refl _))
  clear hT
  go_enter Tryd.func41, Tryd.ntmps41
  go_upto_region 1 with (fail)
  obtain ⟨b1, hb1⟩ : ∃ b1, Hid (b1 = w.heap.size) := ⟨_, rfl⟩
  rw [← hb1.out] at HX0
  simp only [← hb1.out]
  have hwX : w.heap.size ≤ (w.alloc (.cells #[.int .i64 a, .int .i64 b, .int .i64 c, .int .i64 d] 45)).heap.size := HB0.out.size
  generalize w.alloc (.cells #[.int .i64 a, .int .i64 b, .int .i64 c, .int .i64 d] 45) = X at *
  have hbX := HX0.out.lt
  have r0 : ∀ D : BW X.heap.size X, D.w.cell? ⟨b1, 0, none⟩ = some (.int .i64 a) := fun D => (D.b.cell (p := ⟨b1, 0, none⟩) hbX).trans (by rw [HX0.out.cell]; rfl)
  have r1 : ∀ D : BW X.heap.size X, D.w.cell? ⟨b1, 1, none⟩ = some (.int .i64 b) := fun D => (D.b.cell (p := ⟨b1, 1, none⟩) hbX).trans (by rw [HX0.out.cell]; rfl)
  have r2 : ∀ D : BW X.heap.size X, D.w.cell? ⟨b1, 2, none⟩ = some (.int .i64 c) := fun D => (D.b.cell (p := ⟨b1, 2, none⟩) hbX).trans (by rw [HX0.out.cell]; rfl)
  have r3 : ∀ D : BW X.heap.size X, D.w.cell? ⟨b1, 3, none⟩ = some (.int .i64 d) := fun D => (D.b.cell (p := ⟨b1, 3, none⟩) hbX).trans (by rw [HX0.out.cell]; rfl)
  have HIN := Lib.hid (fun W => inside_any la n lc a b c d W)
  try simp only [List.append]
  by_cases hin : In4 n a b c d
  · have HE : Hid (∀ D : BW X.heap.size X, Calls Tryd.prog 60 #[.slice la n lc, .agg #[.int .i64 a, .int .i64 b, .int .i64 c, .int .i64 d]] D.w fun e w' => e = .returned (.bool true) ∧ ∃ d' : BW X.heap.size X, w' = d'.w) := fun D => Calls.bw ((HIN.out D.w).mono fun e w' h => ⟨h.1.dec (b := true) ⟨fun _ => hin, fun _ => rfl⟩, D.b.trans (h.2.mono D.b.size)⟩)
    have HI4 := Lib.hid hin
    obtain ⟨x0, rfl⟩ := Int.eq_ofNat_of_zero_le hin.1.1
    obtain ⟨x1, rfl⟩ := Int.eq_ofNat_of_zero_le hin.2.1.1
    obtain ⟨x2, rfl⟩ := Int.eq_ofNat_of_zero_le hin.2.2.1.1
    obtain ⟨x3, rfl⟩ := Int.eq_ofNat_of_zero_le hin.2.2.2.1
    have l0 : x0 < n := by have := hin.1.2; omega
    have l1 : x1 < n := by have := hin.2.1.2; omega
    have l2 : x2 < n := by have := hin.2.2.1.2; omega
    have l3 : x3 < n := by have := hin.2.2.2.2; omega
    have g0 : (x0 : Int) < (n : Int) := by omega
    have g1 : (x1 : Int) < (n : Int) := by omega
    have g2 : (x2 : Int) < (n : Int) := by omega
    have g3 : (x3 : Int) < (n : Int) := by omega
    have n0 : (0 : Int) ≤ (x0 : Int) := by omega
    have n1 : (0 : Int) ≤ (x1 : Int) := by omega
    have n2 : (0 : Int) ≤ (x2 : Int) := by omega
    have n3 : (0 : Int) ≤ (x3 : Int) := by omega
    clear hin HIN
    have HTT : Hid (ThreeOne n r x0 x1 x2 x3 ↔ r x0 x1 = true ∧ r x1 x2 = true ∧ ovB r x3 x0 = true ∧ ovB r x3 x1 = true ∧ ovB r x3 x2 = true) := ⟨fun h => ⟨h.2.2.2.2.1, h.2.2.2.2.2.1, ovB_iff.2 h.2.2.2.2.2.2.1, ovB_iff.2 h.2.2.2.2.2.2.2.1, ovB_iff.2 h.2.2.2.2.2.2.2.2⟩, fun h => ⟨l0, l1, l2, l3, h.1, h.2.1, ovB_iff.1 h.2.2.1, ovB_iff.1 h.2.2.2.1, ovB_iff.1 h.2.2.2.2⟩⟩
    have HOV : Hid (∀ y, y < n → ∀ D : BW X.heap.size X, Calls Tryd.prog 48 #[.slice la n lc, .int .i64 (x3 : Int), .int .i64 (y : Int)] D.w fun e w' => e = .returned (.bool (ovB r x3 y)) ∧ ∃ d' : BW X.heap.size X, w' = d'.w) := fun y hy D => (overlap_any la n lc x3 y r D.w hn l3 hy (HT.out.below D.b (Nat.le_refl _))).mono fun e w' h => ⟨h.1, D, h.2⟩
    obtain ⟨b, o, p, o2, c, rfl, hb, hp, k1, hc1⟩ := HT.out.at l0
    obtain ⟨b', o', p', o2', c', e, hb', hp', k2, hc2⟩ := HT.out.at l1
    cases e
    have HO0 := Lib.hid (HOV.out x0 l0)
    have HO1 := Lib.hid (HOV.out x1 l1)
    have HO2 := Lib.hid (HOV.out x2 l2)
    have s0 : ∀ D : BW X.heap.size X, D.w.cell? ⟨b, o + x0, none⟩ = some (.slice (some ⟨p, o2, none⟩) n c) := fun D => D.cell hb k1
    have s1 : ∀ D : BW X.heap.size X, D.w.cell? ⟨b, o + x1, none⟩ = some (.slice (some ⟨p', o2', none⟩) n c') := fun D => D.cell hb k2
    have t0 : ∀ D : BW X.heap.size X, D.w.cell? ⟨p, o2 + x1, none⟩ = some (.bool (r x0 x1)) := fun D => D.cell hp (hc1 x1 l1)
    have t1 : ∀ D : BW X.heap.size X, D.w.cell? ⟨p', o2' + x2, none⟩ = some (.bool (r x1 x2)) := fun D => D.cell hp' (hc2 x2 l2)
    clear k1 k2 hc1 hc2 HT HX0 HOV
    generalize r x0 x1 = v1 at *
    generalize r x1 x2 = v2 at *
    generalize ovB r x3 x0 = v3 at *
    generalize ovB r x3 x1 = v4 at *
    generalize ovB r x3 x2 = v5 at *
    cases v1
    · have HF : Hid (¬ ThreeOne n r x0 x1 x2 x3) := fun h => by have := (HTT.out.1 h).1; cases this
      clear HTT
      refine wp_region_bw (by kernel_rfl) (by kernel_rfl) ?_
      repeat (go_big_quiet_step ((first
        | rfl
        | (go_at_call 60; exact HE.out _)
        | (go_at_call 48; with_reducible exact HO0.out _)
        | (go_at_call 48; with_reducible exact HO1.out _)
        | (go_at_call 48; with_reducible exact HO2.out _))))
      refine wpQuiet_nil ?_
      rintro _ ⟨d, rfl⟩
      go_wp2
      go_ret
      exact ⟨BoolP.no fun h => HF.out h.2, HB0.out.trans (d.b.mono hwX)⟩
    cases v2
    · have HF : Hid (¬ ThreeOne n r x0 x1 x2 x3) := fun h => by have := (HTT.out.1 h).2.1; cases this
      clear HTT
      refine wp_region_bw (by kernel_rfl) (by kernel_rfl) ?_
      repeat (go_big_quiet_step ((first
        | rfl
        | (go_at_call 60; exact HE.out _)
        | (go_at_call 48; with_reducible exact HO0.out _)
        | (go_at_call 48; with_reducible exact HO1.out _)
        | (go_at_call 48; with_reducible exact HO2.out _))))
      refine wpQuiet_nil ?_
      rintro _ ⟨d, rfl⟩
      go_wp2
      go_ret
      exact ⟨BoolP.no fun h => HF.out h.2, HB0.out.trans (d.b.mono hwX)⟩
    cases v3
    · have HF : Hid (¬ ThreeOne n r x0 x1 x2 x3) := fun h => by have := (HTT.out.1 h).2.2.1; cases this
      clear HTT
      refine wp_region_bw (by kernel_rfl) (by kernel_rfl) ?_
      repeat (go_big_quiet_step ((first
        | rfl
        | (go_at_call 60; exact HE.out _)
        | (go_at_call 48; with_reducible exact HO0.out _)
        | (go_at_call 48; with_reducible exact HO1.out _)
        | (go_at_call 48; with_reducible exact HO2.out _))))
      refine wpQuiet_nil ?_
      rintro _ ⟨d, rfl⟩
      go_wp2
      go_ret
      exact ⟨BoolP.no fun h => HF.out h.2, HB0.out.trans (d.b.mono hwX)⟩
    cases v4
    · have HF : Hid (¬ ThreeOne n r x0 x1 x2 x3) := fun h => by have := (HTT.out.1 h).2.2.2.1; cases this
      clear HTT
      refine wp_region_bw (by kernel_rfl) (by kernel_rfl) ?_
      repeat (go_big_quiet_step ((first
        | rfl
        | (go_at_call 60; exact HE.out _)
        | (go_at_call 48; with_reducible exact HO0.out _)
        | (go_at_call 48; with_reducible exact HO1.out _)
        | (go_at_call 48; with_reducible exact HO2.out _))))
      refine wpQuiet_nil ?_
      rintro _ ⟨d, rfl⟩
      go_wp2
      go_ret
      exact ⟨BoolP.no fun h => HF.out h.2, HB0.out.trans (d.b.mono hwX)⟩
    cases v5
    · have HF : Hid (¬ ThreeOne n r x0 x1 x2 x3) := fun h => by have := (HTT.out.1 h).2.2.2.2; cases this
      clear HTT
      refine wp_region_bw (by kernel_rfl) (by kernel_rfl) ?_
      repeat (go_big_quiet_step ((first
        | rfl
        | (go_at_call 60; exact HE.out _)
        | (go_at_call 48; with_reducible exact HO0.out _)
        | (go_at_call 48; with_reducible exact HO1.out _)
        | (go_at_call 48; with_reducible exact HO2.out _))))
      refine wpQuiet_nil ?_
      rintro _ ⟨d, rfl⟩
      go_wp2
      go_ret
      exact ⟨BoolP.no fun h => HF.out h.2, HB0.out.trans (d.b.mono hwX)⟩
    have HY : Hid (ThreeOne n r x0 x1 x2 x3) := HTT.out.2 ⟨rfl, rfl, rfl, rfl, rfl⟩
    clear HTT
    refine wp_region_bw (by kernel_rfl) (by kernel_rfl) ?_
    repeat (go_big_quiet_step ((first
      | rfl
      | (go_at_call 60; exact HE.out _)
      | (go_at_call 48; with_reducible exact HO0.out _)
      | (go_at_call 48; with_reducible exact HO1.out _)
      | (go_at_call 48; with_reducible exact HO2.out _))))
    refine wpQuiet_nil ?_
    rintro _ ⟨d, rfl⟩
    go_wp2
    go_ret
    exact ⟨BoolP.yes ⟨HI4.out, HY.out⟩, HB0.out.trans (d.b.mono hwX)⟩
  · have HE : Hid (∀ D : BW X.heap.size X, Calls Tryd.prog 60 #[.slice la n lc, .agg #[.int .i64 a, .int .i64 b, .int .i64 c, .int .i64 d]] D.w fun e w' => e = .returned (.bool false) ∧ ∃ d' : BW X.heap.size X, w' = d'.w) := fun D => Calls.bw ((HIN.out D.w).mono fun e w' h => ⟨h.1.dec (b := false) ⟨(fun h => by cases h), fun h => absurd h hin⟩, D.b.trans (h.2.mono D.b.size)⟩)
    have HI4 := Lib.hid hin
    clear hin HIN
    refine wp_region_bw (by kernel_rfl) (by kernel_rfl) ?_
    repeat (go_big_quiet_step ((first
      | rfl
      | (go_at_call 60; exact HE.out _))))
    refine wpQuiet_nil ?_
    rintro _ ⟨d, rfl⟩
    go_wp2
    go_ret
    exact ⟨BoolP.no fun h => HI4.out h.1, HB0.out.trans (d.b.mono hwX)⟩
end Go.Proofs.YtgpijajgaclhfaaDoor
namespace Go.Proofs.YtgpijajgaclhfaaDoor
open Go.RowKit Go.Shelf

/-- what is known of those that have been looked at -/
structure HasI (n : Nat) (r : Nat → Nat → Bool) (t2 t3 : Bool) (P : Nat → Nat → Nat → Nat → Prop) : Prop where
  y2 : t2 = true → ∃ x y z u, TwoTwo n r x y z u
  n2 : ∀ x y z u, P x y z u → TwoTwo n r x y z u → t2 = true
  y3 : t3 = true → ∃ x y z u, ThreeOne n r x y z u
  n3 : ∀ x y z u, P x y z u → ThreeOne n r x y z u → t3 = true
theorem HasI.mono {n : Nat} {r : Nat → Nat → Bool} {t2 t3 : Bool} {P Q : Nat → Nat → Nat → Nat → Prop} (h : HasI n r t2 t3 P) (hq : ∀ x y z u, x < n → y < n → z < n → u < n → r x y = true → Q x y z u → P x y z u) : HasI n r t2 t3 Q :=
  ⟨h.y2, fun x y z u q t => h.n2 x y z u (hq x y z u t.1 t.2.1 t.2.2.1 t.2.2.2.1 t.2.2.2.2.1 q) t, h.y3, fun x y z u q t => h.n3 x y z u (hq x y z u t.1 t.2.1 t.2.2.1 t.2.2.2.1 t.2.2.2.2.1 q) t⟩
theorem HasI.none (n : Nat) (r : Nat → Nat → Bool) : HasI n r false false (fun x _ _ _ => x < 0) where
  y2 := fun h => by cases h
  n2 := fun _ _ _ _ h => by omega
  y3 := fun h => by cases h
  n3 := fun _ _ _ _ h => by omega
theorem HasI.step {n : Nat} {r : Nat → Nat → Bool} {t2 t3 v2 v3 : Bool} {a b c d : Nat} {P : Nat → Nat → Nat → Nat → Prop} (h : HasI n r t2 t3 P) (h2 : v2 = true ↔ TwoTwo n r a b c d) (h3 : v3 = true ↔ ThreeOne n r a b c d) :
    HasI n r (t2 || v2) (t3 || v3) (fun x y z u => P x y z u ∨ (x = a ∧ y = b ∧ z = c ∧ u = d)) where
  y2 := fun e => by
    rcases Bool.or_eq_true _ _ ▸ e with e | e
    · exact h.y2 e
    · exact ⟨_, _, _, _, h2.1 e⟩
  n2 := fun x y z u p t => by
    rcases p with p | ⟨rfl, rfl, rfl, rfl⟩
    · rw [h.n2 x y z u p t]; rfl
    · rw [h2.2 t, Bool.or_true]
  y3 := fun e => by
    rcases Bool.or_eq_true _ _ ▸ e with e | e
    · exact h.y3 e
    · exact ⟨_, _, _, _, h3.1 e⟩
  n3 := fun x y z u p t => by
    rcases p with p | ⟨rfl, rfl, rfl, rfl⟩
    · rw [h.n3 x y z u p t]; rfl
    · rw [h3.2 t, Bool.or_true]
theorem rTT_nat (la : Option Addr) (n lc : Nat) (r : Nat → Nat → Bool) (a b c d : Nat) (w : World) (hn : n ≤ 1000) (ha : a < n) (hb : b < n) (hc : c < n) (hd : d < n) (hT : TblI w la n (fun _ => n) r) :
    Calls Tryd.prog 28 #[.slice la n lc, .agg #[.int .i64 (a : Int), .int .i64 (b : Int), .int .i64 (c : Int), .int .i64 (d : Int)]] w fun e w' => (∃ v : Bool, e = .returned (.bool v) ∧ (v = true ↔ TwoTwo n r a b c d)) ∧ Below w.heap.size w w' := by
  refine (rTT_any la n lc r a b c d w hn hT).mono ?_
  rintro e w' ⟨⟨v, rfl, h1, h2⟩, hB⟩
  exact ⟨⟨v, rfl, fun h => (h1 h).2, fun h => h2 ⟨⟨⟨by omega, by omega⟩, ⟨by omega, by omega⟩, ⟨by omega, by omega⟩, ⟨by omega, by omega⟩⟩, h⟩⟩, hB⟩
theorem rTO_nat (la : Option Addr) (n lc : Nat) (r : Nat → Nat → Bool) (a b c d : Nat) (w : World) (hn : n ≤ 1000) (ha : a < n) (hb : b < n) (hc : c < n) (hd : d < n) (hT : TblI w la n (fun _ => n) r) :
    Calls Tryd.prog 41 #[.slice la n lc, .agg #[.int .i64 (a : Int), .int .i64 (b : Int), .int .i64 (c : Int), .int .i64 (d : Int)]] w fun e w' => (∃ v : Bool, e = .returned (.bool v) ∧ (v = true ↔ ThreeOne n r a b c d)) ∧ Below w.heap.size w w' := by
  refine (rTO_any la n lc r a b c d w hn hT).mono ?_
  rintro e w' ⟨⟨v, rfl, h1, h2⟩, hB⟩
  exact ⟨⟨v, rfl, fun h => (h1 h).2, fun h => h2 ⟨⟨⟨by omega, by omega⟩, ⟨by omega, by omega⟩, ⟨by omega, by omega⟩, ⟨by omega, by omega⟩⟩, h⟩⟩, hB⟩
theorem boolOf (P : Prop) : ∃ v : Bool, v = true ↔ P := by
  by_cases h : P
  · exact ⟨true, fun _ => h, fun _ => rfl⟩
  · refine ⟨false, fun e => ?_, fun h2 => absurd h2 h⟩
    cases e
/-- what Has answers -/
def HasA (n : Nat) (r : Nat → Nat → Bool) (e : Ending) : Prop := ∃ t2 t3 : Bool, e = .returned (.tuple #[.bool t2, .bool t3]) ∧ (t2 = true ↔ ∃ x y z u, TwoTwo n r x y z u) ∧ (t3 = true ↔ ∃ x y z u, ThreeOne n r x y z u)
set_option maxRecDepth 100000 in
set_option maxHeartbeats 8000000 in
theorem rHas_any (la : Option Addr) (n lc : Nat) (r : Nat → Nat → Bool) (w : World) (hn : n ≤ 12) (hT : TblI w la n (fun _ => n) r) :
    Calls Tryd.prog 26 #[.slice la n lc] w fun e w' => HasA n r e ∧ Below w.heap.size w w' := by
  have HT := Lib.hid hT
  clear hT
  go_enter Tryd.func26, Tryd.ntmps26
  go_upto_region 4 with (fail)
  go_loopw [5, 6, 7] (fun s5 s6 s7 wr => ∃ (a : Nat) (t2 t3 : Bool), a ≤ n ∧ s7 = .int .i64 (a : Int) ∧ s5 = .bool t2 ∧ s6 = .bool t3 ∧ Hid (HasI n r t2 t3 (fun x _ _ _ => x < a)) ∧ Hid (Below w.heap.size w wr)) (fun _ _ s7 _ => n - (intOf s7).toNat)
  case atStart => exact ⟨0, false, false, by omega, rfl, rfl, rfl, HasI.none n r, Below.refl _ _⟩
  case round =>
    obtain ⟨a, t2, t3, ha, rfl, rfl, rfl, hI, hB⟩ := hrel
    by_cases han : a < n
    · have g1 : (a : Int) < (n : Int) := by omega
      have g0 : (0 : Int) ≤ (a : Int) := by omega
      go_upto_region 7 with (fail)
      go_loopw [5, 6, 8] (fun s5 s6 s8 wr => ∃ (b : Nat) (t2 t3 : Bool), b ≤ n ∧ s8 = .int .i64 (b : Int) ∧ s5 = .bool t2 ∧ s6 = .bool t3 ∧ Hid (HasI n r t2 t3 (fun x y _ _ => x < a ∨ (x = a ∧ y < b))) ∧ Hid (Below w.heap.size w wr)) (fun _ _ s8 _ => n - (intOf s8).toNat)
      case atStart => exact ⟨0, t2, t3, by omega, rfl, rfl, rfl, hI.out.mono (fun x y z u _ _ _ _ _ h => by omega), hB⟩
      case round =>
        clear hI hB
        obtain ⟨b, t2, t3, hb, rfl, rfl, rfl, hI, hB⟩ := hrel
        by_cases hbn : b < n
        · have g2 : (b : Int) < (n : Int) := by omega
          have g3 : (0 : Int) ≤ (b : Int) := by omega
          obtain ⟨bb, o, p, o2, c0, rfl, hbb, hp, k1, hc1⟩ := HT.out.at han
          have k2 := hc1 b hbn
          have HK : Hid (∀ W, Below w.heap.size w W → W.cell? ⟨bb, o + a, none⟩ = some (.slice (some ⟨p, o2, none⟩) n c0) ∧ W.cell? ⟨p, o2 + b, none⟩ = some (.bool (r a b))) := fun W hW => ⟨(hW.cell (p := ⟨bb, o + a, none⟩) hbb).trans k1, (hW.cell (p := ⟨p, o2 + b, none⟩) hp).trans k2⟩
          clear k1 k2 hc1
          obtain ⟨rab, hrab⟩ : ∃ t, Hid (t = r a b) := ⟨_, rfl⟩
          rw [← hrab.out] at HK
          go_upto_region 10 with (fail)
          go_loopw [5, 6, 9] (fun s5 s6 s9 wr => ∃ (c : Nat) (t2 t3 : Bool), c ≤ n ∧ s9 = .int .i64 (c : Int) ∧ s5 = .bool t2 ∧ s6 = .bool t3 ∧ Hid (HasI n r t2 t3 (fun x y z _ => x < a ∨ (x = a ∧ (y < b ∨ (y = b ∧ z < c))))) ∧ Hid (Below w.heap.size w wr)) (fun _ _ s9 _ => n - (intOf s9).toNat)
          case atStart => exact ⟨0, t2, t3, by omega, rfl, rfl, rfl, hI.out.mono (fun x y z u _ _ _ _ _ h => by omega), hB⟩
          case round =>
            clear hI hB
            obtain ⟨c, t2, t3, hc, rfl, rfl, rfl, hI, hB⟩ := hrel
            obtain ⟨k1, k2⟩ := HK.out wr hB.out
            by_cases hcn : c < n
            · have g4 : (c : Int) < (n : Int) := by omega
              have g4' : decide (c < n) = true := by simpa using hcn
              cases rab
              · have HE : Hid (HasI n r t2 t3 (fun x y _ _ => x < a ∨ (x = a ∧ y < b + 1))) := hI.out.mono (fun x y z u hx hy _ _ hr h => by
                  by_cases e : x = a ∧ y = b
                  · rw [e.1, e.2, ← hrab.out] at hr; cases hr
                  · omega)
                go_wp2
                exact ⟨⟨b + 1, t2, t3, by omega, int_eq (by omega), rfl, rfl, HE, hB⟩, by simp [intOf]; omega⟩
              · go_upto_region 13 with (fail)
                clear k1 k2
                go_loopw [5, 6, 10] (fun s5 s6 s10 wr => ∃ (d : Nat) (t2 t3 : Bool), d ≤ n ∧ s10 = .int .i64 (d : Int) ∧ s5 = .bool t2 ∧ s6 = .bool t3 ∧ Hid (HasI n r t2 t3 (fun x y z u => x < a ∨ (x = a ∧ (y < b ∨ (y = b ∧ (z < c ∨ (z = c ∧ u < d))))))) ∧ Hid (Below w.heap.size w wr)) (fun _ _ s10 _ => n - (intOf s10).toNat)
                case atStart => exact ⟨0, t2, t3, by omega, rfl, rfl, rfl, hI.out.mono (fun x y z u _ _ _ _ _ h => by omega), hB⟩
                case round =>
                  clear hI hB
                  obtain ⟨d, t2, t3, hd, rfl, rfl, rfl, hI, hB⟩ := hrel
                  by_cases hdn : d < n
                  · have g5 : (d : Int) < (n : Int) := by omega
                    have hwr : w.heap.size ≤ wr.heap.size := hB.out.size
                    have HBX := Lib.hid (hB.out.alloc hwr (.cells #[.int .i64 (a : Int), .int .i64 (b : Int), .int .i64 (c : Int), .int .i64 (d : Int)] 45))
                    have HBN : Hid (BoxN (wr.alloc (.cells #[.int .i64 (a : Int), .int .i64 (b : Int), .int .i64 (c : Int), .int .i64 (d : Int)] 45)) wr.heap.size 45 #[.int .i64 (a : Int), .int .i64 (b : Int), .int .i64 (c : Int), .int .i64 (d : Int)]) := BoxN.new rfl
                    have HN : Hid (∀ v2 v3 : Bool, (v2 = true ↔ TwoTwo n r a b c d) → (v3 = true ↔ ThreeOne n r a b c d) → HasI n r (t2 || v2) (t3 || v3) (fun x y z u => x < a ∨ (x = a ∧ (y < b ∨ (y = b ∧ (z < c ∨ (z = c ∧ u < d + 1))))))) := fun v2 v3 h2 h3 => (hI.out.step h2 h3).mono (fun x y z u _ _ _ _ _ h => by omega)
                    clear hI
                    go_upto_region 16 with (fail)
                    obtain ⟨bx, hbx⟩ : ∃ bx, Hid (bx = wr.heap.size) := ⟨_, rfl⟩
                    rw [← hbx.out] at HBN
                    simp only [← hbx.out]
                    generalize wr.alloc (.cells #[.int .i64 (a : Int), .int .i64 (b : Int), .int .i64 (c : Int), .int .i64 (d : Int)] 45) = X at *
                    have hwX : w.heap.size ≤ X.heap.size := HBX.out.size
                    have hbX := HBN.out.lt
                    have HTX := Lib.hid (HT.out.below HBX.out (Nat.le_refl _))
                    have H2 := Lib.hid (rTT_nat _ n lc r a b c d X (by omega) han hbn hcn hdn HTX.out)
                    have H3 : Hid (∀ V, Below X.heap.size X V → Calls Tryd.prog 41 #[.slice (some ⟨bb, o, none⟩) n lc, .agg #[.int .i64 (a : Int), .int .i64 (b : Int), .int .i64 (c : Int), .int .i64 (d : Int)]] V fun e w' => (∃ v : Bool, e = .returned (.bool v) ∧ (v = true ↔ ThreeOne n r a b c d)) ∧ Below V.heap.size V w') := fun V hV => rTO_nat _ n lc r a b c d V (by omega) han hbn hcn hdn (HTX.out.below hV (Nat.le_refl _))
                    have HCX : Hid (∀ V, Below X.heap.size X V → V.cell? ⟨bx, 0, none⟩ = some (.int .i64 (a : Int)) ∧ V.cell? ⟨bx, 1, none⟩ = some (.int .i64 (b : Int)) ∧ V.cell? ⟨bx, 2, none⟩ = some (.int .i64 (c : Int)) ∧ V.cell? ⟨bx, 3, none⟩ = some (.int .i64 (d : Int))) := fun V hV => by
                      refine ⟨(hV.cell (p := ⟨bx, 0, none⟩) hbX).trans ?_, (hV.cell (p := ⟨bx, 1, none⟩) hbX).trans ?_, (hV.cell (p := ⟨bx, 2, none⟩) hbX).trans ?_, (hV.cell (p := ⟨bx, 3, none⟩) hbX).trans ?_⟩ <;> rw [HBN.out.cell] <;> rfl
                    have hN2 : Hid (∃ v2 : Bool, v2 = true ↔ TwoTwo n r a b c d) := boolOf _
                    have hN3 : Hid (∃ v3 : Bool, v3 = true ↔ ThreeOne n r a b c d) := boolOf _
                    obtain ⟨c0, c1, c2, c3⟩ := HCX.out X (Below.refl _ _)
                    cases t2
                    · cases t3
                      · go_wp2_with (first | (go_at_call 28; refine H2.out.mono ?_; rintro e w4 ⟨⟨v2, rfl, hv2⟩, hB4⟩; have HV2 := Lib.hid hv2; have HB4 := Lib.hid hB4; have H34 := Lib.hid (H3.out w4 hB4); obtain ⟨d0, d1, d2, d3⟩ := HCX.out w4 hB4; clear hv2 hB4) | (go_at_call 41; refine H34.out.mono ?_; rintro e w5 ⟨⟨v3, rfl, hv3⟩, hB5⟩; have HV3 := Lib.hid hv3; have HB5 := Lib.hid hB5; clear hv3 hB5))
                        exact ⟨⟨d + 1, _, _, by omega, int_eq (by omega), rfl, rfl, HN.out v2 v3 HV2.out HV3.out, HBX.out.trans ((HB4.out.trans (HB5.out.mono HB4.out.size)).mono hwX)⟩, by simp [intOf]; omega⟩
                      · obtain ⟨v3, hv3⟩ := hN3.out
                        have HV3 := Lib.hid hv3
                        clear hv3
                        go_wp2_with (go_at_call 28; refine H2.out.mono ?_; rintro e w4 ⟨⟨v2, rfl, hv2⟩, hB4⟩; have HV2 := Lib.hid hv2; have HB4 := Lib.hid hB4; have H34 := Lib.hid (H3.out w4 hB4); obtain ⟨d0, d1, d2, d3⟩ := HCX.out w4 hB4; clear hv2 hB4)
                        exact ⟨⟨d + 1, _, _, by omega, int_eq (by omega), rfl, rfl, HN.out v2 v3 HV2.out HV3.out, HBX.out.trans (HB4.out.mono hwX)⟩, by simp [intOf]; omega⟩
                    · obtain ⟨v2, hv2⟩ := hN2.out
                      have HV2 := Lib.hid hv2
                      clear hv2
                      cases t3
                      · have H35 := Lib.hid (H3.out X (Below.refl _ _))
                        go_wp2_with (go_at_call 41; refine H35.out.mono ?_; rintro e w5 ⟨⟨v3, rfl, hv3⟩, hB5⟩; have HV3 := Lib.hid hv3; have HB5 := Lib.hid hB5; clear hv3 hB5)
                        exact ⟨⟨d + 1, _, _, by omega, int_eq (by omega), rfl, rfl, HN.out v2 v3 HV2.out HV3.out, HBX.out.trans (HB5.out.mono hwX)⟩, by simp [intOf]; omega⟩
                      · obtain ⟨v3, hv3⟩ := hN3.out
                        have HV3 := Lib.hid hv3
                        clear hv3
                        go_wp2
                        exact ⟨⟨d + 1, _, _, by omega, int_eq (by omega), rfl, rfl, HN.out v2 v3 HV2.out HV3.out, HBX⟩, by simp [intOf]; omega⟩
                  · have g5 : ¬ (d : Int) < (n : Int) := by omega
                    have HE : Hid (HasI n r t2 t3 (fun x y z _ => x < a ∨ (x = a ∧ (y < b ∨ (y = b ∧ z < c + 1))))) := hI.out.mono (fun x y z u _ _ _ _ _ h => by omega)
                    go_wp2
                    exact ⟨⟨c + 1, t2, t3, by omega, int_eq (by omega), rfl, rfl, HE, hB⟩, by simp [intOf]; omega⟩
            · have g4 : ¬ (c : Int) < (n : Int) := by omega
              have g4' : decide (c < n) = false := by simpa using hcn
              have HE : Hid (HasI n r t2 t3 (fun x y _ _ => x < a ∨ (x = a ∧ y < b + 1))) := hI.out.mono (fun x y z u _ _ _ _ _ h => by omega)
              go_wp2
              exact ⟨⟨b + 1, t2, t3, by omega, int_eq (by omega), rfl, rfl, HE, hB⟩, by simp [intOf]; omega⟩
        · have g2 : ¬ (b : Int) < (n : Int) := by omega
          have HE : Hid (HasI n r t2 t3 (fun x _ _ _ => x < a + 1)) := hI.out.mono (fun x y z u _ _ _ _ _ h => by omega)
          go_wp2
          exact ⟨⟨a + 1, t2, t3, by omega, int_eq (by omega), rfl, rfl, HE, hB⟩, by simp [intOf]; omega⟩
    · have g1 : ¬ (a : Int) < (n : Int) := by omega
      go_wp2
      refine bodyPost_ret (v := .tuple #[.bool t2, .bool t3]) (by simp [results, Tryd.f26, go_sem]) rfl ?_
      exact ⟨⟨t2, t3, rfl, ⟨hI.out.y2, fun ⟨x, y, z, u, t⟩ => hI.out.n2 x y z u (by have := t.1; omega) t⟩, ⟨hI.out.y3, fun ⟨x, y, z, u, t⟩ => hI.out.n3 x y z u (by have := t.1; omega) t⟩⟩, hB.out⟩
end Go.Proofs.YtgpijajgaclhfaaDoor
namespace Go.Proofs.YtgpijajgaclhfaaDoor
open Go.RowKit Go.Shelf

set_option maxRecDepth 100000 in
theorem rMag_any (la : Option Addr) (n lc : Nat) (r : Nat → Nat → Bool) (w : World) (hn : n ≤ 12) (hT : TblI w la n (fun _ => n) r) :
    Calls Tryd.prog 27 #[.slice la n lc] w fun e w' => (∃ L, e = .returned (.int .i64 (L.length : Nat)) ∧ SetsL n r L) ∧ Below w.heap.size w w' := by
  have HS := Lib.hid (rsets_any la n lc r w hn hT)
  clear hT
  go_enter Tryd.func27, Tryd.ntmps27
  go_wp2_with (go_at_call 59; refine HS.out.mono ?_; rintro e w1 ⟨v, L, rfl, hL, hq, hB⟩; obtain ⟨p, c, rfl⟩ := hq.isSlice; have HL := Lib.hid hL; have HB := Lib.hid hB; clear hL hB hq)
  go_ret
  exact ⟨⟨L, rfl, HL.out⟩, HB.out⟩
/-- the left end, looked for among the first k sets -/
def lfTo (L : List Nat) (s k : Nat) : Nat := if lftS L s < k then lftS L s else 0
theorem SetsL.at_iff {n : Nat} {r : Nat → Nat → Bool} {L : List Nat} (h : SetsL n r L) {x k : Nat} (hx : x < n) (hk : k < L.length) : nthN L k = bef n r x ↔ lftS L (bef n r x) = k := by
  constructor
  · intro e; rw [← e]; exact h.idx hk
  · intro e; rw [← e]; exact (h.at hx).2
set_option maxRecDepth 100000 in
set_option maxHeartbeats 8000000 in
theorem rCanon_any (la : Option Addr) (n lc : Nat) (r : Nat → Nat → Bool) (w : World) (hn : n ≤ 12) (hT : TblI w la n (fun _ => n) r) :
    Calls Tryd.prog 31 #[.slice la n lc] w fun e w' => ∃ p c L, e = .returned (.slice p n c) ∧ SetsL n r L ∧ Pairs w' p (canonPs n r L) ∧ Below w.heap.size w w' := by
  obtain ⟨i0, hi0, hz0, hz1, hz2⟩ := info_parts info39
  have HS := Lib.hid (rsets_any la n lc r w hn hT)
  have HT := Lib.hid hT
  clear hT
  go_enter Tryd.func31, Tryd.ntmps31
  go_upto_region 2 with (go_at_call 59; refine HS.out.mono ?_; rintro e w1 ⟨v, L, rfl, hL, hq, hB⟩; obtain ⟨p1, c1, rfl⟩ := hq.isSlice; have HSL := Lib.hid hL; have HQ := Lib.hid hq; have HB1 := Lib.hid hB; clear hL hB hq)
  have HR1 := Lib.hid HQ.out.rowN
  have hsw : w.heap.size ≤ w1.heap.size := HB1.out.size
  have HT1 := Lib.hid (HT.out.below HB1.out (Nat.le_refl _))
  obtain ⟨len, HL⟩ : ∃ len, Hid (L.length = len) := ⟨_, rfl⟩
  have hln : len ≤ 12 := by
    rw [← HL.out]
    have h1 : ∀ k ∈ L, k ∈ (List.range n).map (bef n r) := fun k hk => by
      obtain ⟨y, hy, e⟩ := (HSL.out.mem k).1 hk
      exact List.mem_map.2 ⟨y, List.mem_range.2 hy, e.symm⟩
    have := nodup_in L ((List.range n).map (bef n r)) HSL.out.nodup h1
    simp at this; omega
  rw [HL.out]
  clear HS HQ HT
  go_upto_region 4 with (fail)
  go_loopw [4, 5] (fun s4 s5 wr => ∃ x : Nat, x ≤ n ∧ s5 = .int .i64 (x : Int) ∧ QRow wr w1.heap.size 39 2 s4 x (pairCells ((canonPs n r L).take x)) ∧ Hid (Below w1.heap.size w1 wr)) (fun _ s5 _ => n - (intOf s5).toNat)
  case atStart => exact ⟨0, by omega, rfl, QRow.nil _ _ _ _, Below.refl _ _⟩
  case round =>
    obtain ⟨x, hx, rfl, hq, hB⟩ := hrel
    by_cases hxn : x < n
    · have g1 : (x : Int) < (n : Int) := by omega
      have hsr : w1.heap.size ≤ wr.heap.size := hB.out.size
      have HCT := Lib.hid (canonPs_take (r := r) (L := L) hxn)
      rw [HL.out] at HCT
      have HBX : Hid (BoxN (wr.alloc (.cells #[.int .i64 0, .int .i64 0] 39)) wr.heap.size 39 #[.int .i64 ((lfTo L (bef n r x) 0 : Nat) : Int), .int .i64 ((rgtTo L x 0 : Nat) : Int)]) := by
        have e : lfTo L (bef n r x) 0 = 0 := by unfold lfTo; rw [if_neg (by omega)]
        rw [e]; exact BoxN.new rfl
      have HXB : Hid (Below wr.heap.size wr (wr.alloc (.cells #[.int .i64 0, .int .i64 0] 39))) := (Below.refl _ _).alloc (Nat.le_refl _) _
      have HLTQ := Lib.hid (fun kk (e : _ = some kk) => (hq.lt kk e))
      have HQX := Lib.hid (hq.alloc (.cells #[.int .i64 0, .int .i64 0] 39))
      clear hq
      obtain ⟨wo, hwo⟩ : ∃ wo, Hid (wo = wr) := ⟨_, rfl⟩
      rw [← hwo.out] at hB HBX HXB HLTQ HQX hsr ⊢
      clear hwo
      go_upto_region 8 with (fail)
      obtain ⟨bx, hbx⟩ : ∃ bx, Hid (bx = wo.heap.size) := ⟨_, rfl⟩
      rw [← hbx.out] at HBX
      simp only [← hbx.out]
      have hbw : wo.heap.size ≤ bx := Nat.le_of_eq hbx.out.symm
      generalize wo.alloc (.cells #[.int .i64 0, .int .i64 0] 39) = X at *
      have hox : wo.heap.size ≤ X.heap.size := HXB.out.size
      have HBXX := Lib.hid (hB.out.trans (HXB.out.mono hsr))
      go_loopw [7] (fun s7 wq => ∃ k : Nat, k ≤ len ∧ s7 = .int .i64 (k : Int) ∧ BoxN wq bx 39 #[.int .i64 ((lfTo L (bef n r x) k : Nat) : Int), .int .i64 ((rgtTo L x k : Nat) : Int)] ∧ Hid (Ag (· = bx) X wq)) (fun s7 _ => len - (intOf s7).toNat)
      case atStart => exact ⟨0, by omega, rfl, HBX.out, Ag.refl _ _⟩
      case round =>
        obtain ⟨k, hk, rfl, hbox, hA⟩ := hrel
        by_cases hkl : k < len
        · have g4 : (k : Int) < (len : Int) := by omega
          have g5 : (0 : Int) ≤ (k : Int) := by omega
          obtain ⟨b, o, rfl, hb, hc⟩ := HR1.out k (by rw [HL.out]; exact hkl)
          have hAB : Below w1.heap.size w1 wr := hA.out.below HBXX.out HBXX.out.size (fun kk hkk e => by omega)
          have l2 := (hAB.cell (p := ⟨b, o + k, none⟩) hb).trans hc
          have hbs : Sm (nthN L k) := by
            obtain ⟨y, _, e⟩ := (HSL.out.mem (nthN L k)).1 (nthN_mem (by rw [HL.out]; exact hkl))
            rw [e]; exact bef_sm hn y
          have HBE := Lib.hid (before_any la n lc x r wr hn hxn (HT1.out.below hAB (Nat.le_refl _)))
          have HRT : Hid (rgtTo L x (k + 1) = if (nthN L k).testBit x = true then rgtTo L x k else k) := rfl
          have HLF : Hid (lfTo L (bef n r x) (k + 1) = if nthN L k = bef n r x then k else lfTo L (bef n r x) k) := by
            have h1 := HSL.out.at_iff (k := k) hxn (by rw [HL.out]; exact hkl)
            unfold Hid lfTo
            by_cases e : nthN L k = bef n r x
            · rw [if_pos e, h1.1 e, if_pos (by omega)]
            · have : lftS L (bef n r x) ≠ k := fun e2 => e (h1.2 e2)
              rw [if_neg e]
              by_cases e3 : lftS L (bef n r x) < k
              · rw [if_pos (by omega), if_pos e3]
              · rw [if_neg (by omega), if_neg e3]
          have hsb := bef_sm (r := r) hn x
          have hf0 := hbox.frozen 0
          have hf1 := hbox.frozen 1
          have hc0 := hbox.cell 0
          have hc1 := hbox.cell 1
          have h20 : x < 20 := by omega
          clear hc
          generalize hs : nthN L k = s at *
          clear hs
          obtain ⟨be, hbe⟩ : ∃ be, Hid (be = bef n r x) := ⟨_, rfl⟩
          rw [← hbe.out] at HBE HLF hbox hc0 hc1 hsb ⊢
          have HBOX := Lib.hid hbox
          have hbxlt := hbox.lt
          clear hbox
          have HQB : Hid (∀ q, Calls Tryd.prog 63 #[.slice la n lc, .int .i64 (x : Int)] (wr.drewN q) fun e w' => e = .returned (.int .i64 (be : Int)) ∧ w' = wr.drewN q) := fun q => by
            rw [hbe.out]; exact before_any la n lc x r (wr.drewN q) hn hxn (HT1.out.below (below_dr hAB q) (Nat.le_refl _))
          clear hAB HBE
          have hne : b ≠ bx := by omega
          by_cases e1 : s = be
          · have q1 : ((s : Int) == (be : Int)) = true := by rw [e1]; simp
            have HLF2 : Hid (lfTo L be (k + 1) = k) := HLF.out.trans (if_pos e1)
            clear HLF
            by_cases e2 : s.testBit x = true
            · have HRT2 : Hid (rgtTo L x (k + 1) = rgtTo L x k) := HRT.out.trans (if_pos e2)
              clear HRT e1
              generalize rgtTo L x k = rt at *
              go_wp2
              go_quiet ((go_at_call 63; exact Calls.quiet_of_same (HQB.out _)))
              go_wp2
              exact ⟨⟨k + 1, by omega, int_eq (by omega), by rw [HLF2.out, HRT2.out]; exact (show BoxN (wr.drewN nq) bx 39 _ from HBOX.out).set 0 _, (hA.out.drewN nq).set ⟨bx, 0, none⟩ _ (.inr rfl)⟩, by simp [intOf]; omega⟩
            · have e2' : s.testBit x = false := by simpa using e2
              have HRT2 : Hid (rgtTo L x (k + 1) = k) := HRT.out.trans (if_neg e2)
              clear HRT e1 e2
              generalize rgtTo L x k = rt at *
              go_wp2
              go_quiet ((go_at_call 63; exact Calls.quiet_of_same (HQB.out _)))
              go_wp2
              exact ⟨⟨k + 1, by omega, int_eq (by omega), by rw [HLF2.out, HRT2.out]; exact ((show BoxN (wr.drewN nq) bx 39 _ from HBOX.out).set 0 _).set 1 _, ((hA.out.drewN nq).set ⟨bx, 0, none⟩ _ (.inr rfl)).set ⟨bx, 1, none⟩ _ (.inr rfl)⟩, by simp [intOf]; omega⟩
          · have q1 : ((s : Int) == (be : Int)) = false := by rw [beq_eq_false_iff_ne]; omega
            have HLF2 : Hid (lfTo L be (k + 1) = lfTo L be k) := HLF.out.trans (if_neg e1)
            clear HLF
            by_cases e2 : s.testBit x = true
            · have HRT2 : Hid (rgtTo L x (k + 1) = rgtTo L x k) := HRT.out.trans (if_pos e2)
              clear HRT
              generalize rgtTo L x k = rt at *
              go_wp2
              go_quiet ((go_at_call 63; exact Calls.quiet_of_same (HQB.out _)))
              go_wp2
              exact ⟨⟨k + 1, by omega, int_eq (by omega), by rw [HLF2.out, HRT2.out]; exact (show BoxN (wr.drewN nq) bx 39 _ from HBOX.out), (hA.out.drewN nq)⟩, by simp [intOf]; omega⟩
            · have e2' : s.testBit x = false := by simpa using e2
              have HRT2 : Hid (rgtTo L x (k + 1) = k) := HRT.out.trans (if_neg e2)
              clear HRT e2
              generalize rgtTo L x k = rt at *
              go_wp2
              go_quiet ((go_at_call 63; exact Calls.quiet_of_same (HQB.out _)))
              go_wp2
              exact ⟨⟨k + 1, by omega, int_eq (by omega), by rw [HLF2.out, HRT2.out]; exact (show BoxN (wr.drewN nq) bx 39 _ from HBOX.out).set 1 _, (hA.out.drewN nq).set ⟨bx, 1, none⟩ _ (.inr rfl)⟩, by simp [intOf]; omega⟩
        · have g4 : ¬ (k : Int) < (len : Int) := by omega
          obtain rfl : k = len := by omega
          have d0 := hbox.cell 0
          have d1 := hbox.cell 1
          have hxr : X.heap.size ≤ wr.heap.size := hA.out.size
          have hlf : lfTo L (bef n r x) k = lftS L (bef n r x) := by
            unfold lfTo; rw [if_pos]; have := (HSL.out.at hxn).1; rw [HL.out] at this; exact this
          have HQR : Hid (QRow wr w1.heap.size 39 2 u4 x (pairCells ((canonPs n r L).take x))) := by
            have hB3 : Below wo.heap.size X wr := hA.out.below (Below.refl _ _) hox (fun kk hkk e => by omega)
            exact HQX.out.below hB3 (fun kk e => (HLTQ.out kk e).2)
          have HBR := Lib.hid (hA.out.below HBXX.out HBXX.out.size (fun kk hkk e => by omega))
          rw [hlf] at d0 hbox
          generalize lftS L (bef n r x) = lf at *
          generalize rgtTo L x k = rt at *
          have HQA := Lib.hid (HQR.out.alloc (.cells #[.int .i64 (lf : Int), .int .i64 (rt : Int)] 39))
          have hwr : w1.heap.size ≤ wr.heap.size := HBR.out.size
          have HLB := Lib.hid (fun kk (e : _ = some kk) => (HQR.out.lt kk e).1)
          go_wp2_with (at_builtin; go_must (refine wpList_append_q _ rfl (.tmp 42) (.tmp 44) 22 rfl w1.heap.size 39 i0 (.agg #[.int .i64 0, .int .i64 0]) 2 16 under22 hi0 hz0 hz1 hz2 rfl (by decide) _ x (pairCells ((canonPs n r L).take x)) rfl HQA.out ⟨_, 0, none⟩ 1 1 [.int .i64 (lf : Int), .int .i64 (rt : Int)] rfl rfl (cells_newB _ _ _ _) (by simp [Value.oneCell']) (by unfold maxLen; omega) (by omega) (by simp; omega) ?_); intro v7 w7 hq7 hg7 ho7; have HQ7 : Hid (QRow w7 w1.heap.size 39 2 v7 (x + 1) (pairCells ((canonPs n r L).take (x + 1)))) := (by rw [HCT.out]; exact hq7); have HB7 : Hid (Below w1.heap.size w1 w7) := Below.grown (HBR.out.alloc hwr _) hg7 (by simp; omega) (fun kk e => HLB.out kk e); clear hq7 hg7 ho7)
          exact ⟨⟨x + 1, by omega, int_eq (by omega), HQ7.out, HB7⟩, by simp [intOf]; omega⟩
    · have g1 : ¬ (x : Int) < (n : Int) := by omega
      obtain rfl : x = n := by omega
      have HQ := Lib.hid hq
      obtain ⟨p4, c4, rfl⟩ := hq.isSlice
      clear hq
      go_wp2
      go_ret
      have hq := HQ.out
      rw [List.take_of_length_le (by rw [canonPs_len]; exact Nat.le_refl _)] at hq
      exact ⟨_, ⟨c4, rfl⟩, L, HSL.out, hq.pairs' (canonPs_len _ _ _).symm, HB1.out.trans (hB.out.mono hsw)⟩
end Go.Proofs.YtgpijajgaclhfaaDoor
namespace Go.Proofs.YtgpijajgaclhfaaDoor
open Go.RowKit Go.Shelf

set_option maxRecDepth 100000 in
set_option maxHeartbeats 2000000 in
theorem pairs_any (p q : Option Addr) (m c d : Nat) (ps : List (Int × Int)) (w : World) (hm : ps.length = m) (hl : m ≤ 1000) (hP : Pairs w p ps) (hQ : Pairs w q ps) :
    Calls Tryd.prog 30 #[.slice p m c, .slice q m d] w fun e w' => e = .returned (.bool true) ∧ ∃ z, w' = w.drewN z := by
  have HP := Lib.hid hP
  have HQ := Lib.hid hQ
  have HM := Lib.hid hm
  clear hP hQ hm
  go_enter Tryd.func30, Tryd.ntmps30
  go_upto_region 4 with (fail)
  go_loopw [5] (fun s5 wr => ∃ i : Nat, i ≤ m ∧ s5 = .int .i64 (i : Int) ∧ ∃ z, Hid (wr = w.drewN z)) (fun s5 _ => m - (intOf s5).toNat)
  case atStart => exact ⟨0, by omega, rfl, 0, rfl⟩
  case round =>
    obtain ⟨i, hi, rfl, z, hw⟩ := hrel
    rw [hw.out]
    clear hw
    by_cases him : i < m
    · have g1 : (i : Int) < (m : Int) := by omega
      have g2 : (0 : Int) ≤ (i : Int) := by omega
      obtain ⟨b, o, rfl, hb, k1, k2⟩ := HP.out.at (k := i) (by rw [HM.out]; exact him)
      obtain ⟨b', o', rfl, hb', k3, k4⟩ := HQ.out.at (k := i) (by rw [HM.out]; exact him)
      generalize la ps i = x at *
      generalize ua ps i = y at *
      have q1 : (x == x && y == y) = true := by simp
      go_wp2
      go_quiet (fail)
      go_wp2
      exact ⟨⟨i + 1, by omega, int_eq (by omega), _, rfl⟩, by simp [intOf]; omega⟩
    · have g1 : ¬ (i : Int) < (m : Int) := by omega
      obtain rfl : i = m := by omega
      go_wp2
      go_ret
      exact ⟨rfl, z, rfl⟩
/-- the functions of an order -/
theorem mag_ok (p : Option Addr) (k c : Nat) (R : Nat → Nat → Bool) (w : World) (hk : TabOK k (fun _ => k) R) (hT : TblI w p k (fun _ => k) R) :
    Calls Tryd.prog 23 #[.slice p k c] w fun e w' => ∃ L : List Nat, e = .returned (.tuple #[.int .i64 (L.length : Int), .int .i64 0]) ∧ SetsL k R L ∧ Below w.heap.size w w' := by
  refine (Magnitude_any p k c _ R w (by have := hk.n12; omega) hT).mono ?_
  rintro e w' ⟨⟨_, h⟩ | ⟨L, rfl, _, h⟩, hB⟩
  · exact absurd hk h
  · exact ⟨L, rfl, h, hB⟩
theorem rmag_ok (p : Option Addr) (k c : Nat) (R : Nat → Nat → Bool) (L : List Nat) (w : World) (hk : TabOK k (fun _ => k) R) (hL : SetsL k R L) (hT : TblI w p k (fun _ => k) R) :
    Calls Tryd.prog 27 #[.slice p k c] w fun e w' => e = .returned (.int .i64 (L.length : Int)) ∧ Below w.heap.size w w' := by
  refine (rMag_any p k c R w hk.n12 hT).mono ?_
  rintro e w' ⟨⟨L', rfl, h⟩, hB⟩
  rw [h.unique hL]; exact ⟨rfl, hB⟩
theorem ivs_two (p : Option Addr) (k c : Nat) (R : Nat → Nat → Bool) (w : World) (hk : TabOK k (fun _ => k) R) (h2 : ∃ a b c d, TwoTwo k R a b c d) (hTb : Tab w) (hT : TblI w p k (fun _ => k) R) :
    Calls Tryd.prog 24 #[.slice p k c] w fun e w' => e = .returned (.tuple #[.slice none 0 0, .int .i64 4]) ∧ Below w.heap.size w w' := by
  refine (Intervals_any p k c _ R w (by have := hk.n12; omega) hTb hT).mono ?_
  rintro e w' ⟨⟨_, h⟩ | ⟨rfl, _, _⟩ | ⟨v, L, rfl, _, h, _⟩, hB⟩
  · exact absurd hk h
  · exact ⟨rfl, hB⟩
  · obtain ⟨a, b, c, d, h2⟩ := h2; exact absurd h2 (h a b c d)
theorem ivs_no (p : Option Addr) (k c : Nat) (R : Nat → Nat → Bool) (L : List Nat) (w : World) (hk : TabOK k (fun _ => k) R) (hL : SetsL k R L) (h2 : ∀ a b c d, ¬ TwoTwo k R a b c d) (hTb : Tab w) (hT : TblI w p k (fun _ => k) R) :
    Calls Tryd.prog 24 #[.slice p k c] w fun e w' => ∃ q d, e = .returned (.tuple #[.slice q k d, .int .i64 0]) ∧ Pairs w' q (canonPs k R L) ∧ Below w.heap.size w w' := by
  refine (Intervals_any p k c _ R w (by have := hk.n12; omega) hTb hT).mono ?_
  rintro e w' ⟨⟨_, h⟩ | ⟨_, _, a, b, c, d, h⟩ | ⟨v, L', rfl, _, _, hL', hq⟩, hB⟩
  · exact absurd hk h
  · exact absurd h (h2 a b c d)
  · obtain ⟨q, d, rfl⟩ := hq.isSlice
    rw [hL'.unique hL] at hq
    exact ⟨q, d, rfl, hq.pairs' (canonPs_len _ _ _).symm, hB⟩
theorem two_yes (p : Option Addr) (k c : Nat) (R : Nat → Nat → Bool) (w : World) (hk : TabOK k (fun _ => k) R) (h2 : ∃ a b c d, TwoTwo k R a b c d) (hTb : Tab w) (hT : TblI w p k (fun _ => k) R) :
    Calls Tryd.prog 25 #[.slice p k c] w fun e w' => ∃ a b c d : Nat, e = .returned (.tuple #[.agg #[.int .i64 (a : Int), .int .i64 (b : Int), .int .i64 (c : Int), .int .i64 (d : Int)], .bool true, .int .i64 0]) ∧ TwoTwo k R a b c d ∧ Below w.heap.size w w' := by
  refine (TwoTwo_any p k c _ R w (by have := hk.n12; omega) hTb hT).mono ?_
  rintro e w' ⟨⟨_, h⟩ | ⟨a, b, c, d, rfl, _, h⟩ | ⟨_, _, h⟩, hB⟩
  · exact absurd hk h
  · exact ⟨a, b, c, d, rfl, h, hB⟩
  · obtain ⟨a, b, c, d, h2⟩ := h2; exact absurd h2 (h a b c d)
theorem two_no (p : Option Addr) (k c : Nat) (R : Nat → Nat → Bool) (w : World) (hk : TabOK k (fun _ => k) R) (h2 : ∀ a b c d, ¬ TwoTwo k R a b c d) (hTb : Tab w) (hT : TblI w p k (fun _ => k) R) :
    Calls Tryd.prog 25 #[.slice p k c] w fun e w' => e = .returned (.tuple #[.agg #[.int .i64 0, .int .i64 0, .int .i64 0, .int .i64 0], .bool false, .int .i64 0]) ∧ Below w.heap.size w w' := by
  refine (TwoTwo_any p k c _ R w (by have := hk.n12; omega) hTb hT).mono ?_
  rintro e w' ⟨⟨_, h⟩ | ⟨a, b, c, d, rfl, _, h⟩ | ⟨rfl, _, h⟩, hB⟩
  · exact absurd hk h
  · exact absurd h (h2 a b c d)
  · exact ⟨rfl, hB⟩
theorem has_at (p : Option Addr) (k c : Nat) (R : Nat → Nat → Bool) (t2 t3 : Bool) (w : World) (hk : TabOK k (fun _ => k) R) (h2 : t2 = true ↔ ∃ x y z u, TwoTwo k R x y z u) (h3 : t3 = true ↔ ∃ x y z u, ThreeOne k R x y z u) (hT : TblI w p k (fun _ => k) R) :
    Calls Tryd.prog 26 #[.slice p k c] w fun e w' => e = .returned (.tuple #[.bool t2, .bool t3]) ∧ Below w.heap.size w w' := by
  refine (rHas_any p k c R w hk.n12 hT).mono ?_
  rintro e w' ⟨⟨u2, u3, rfl, e2, e3⟩, hB⟩
  rw [show u2 = t2 from Bool.eq_iff_iff.2 (e2.trans h2.symm), show u3 = t3 from Bool.eq_iff_iff.2 (e3.trans h3.symm)]
  exact ⟨rfl, hB⟩
theorem rTT_yes (p : Option Addr) (k n : Nat) (R : Nat → Nat → Bool) (a b c d : Nat) (w : World) (hk : TabOK k (fun _ => k) R) (h : TwoTwo k R a b c d) (hT : TblI w p k (fun _ => k) R) :
    Calls Tryd.prog 28 #[.slice p k n, .agg #[.int .i64 (a : Int), .int .i64 (b : Int), .int .i64 (c : Int), .int .i64 (d : Int)]] w fun e w' => e = .returned (.bool true) ∧ Below w.heap.size w w' := by
  refine (rTT_nat p k n R a b c d w (by have := hk.n12; omega) h.1 h.2.1 h.2.2.1 h.2.2.2.1 hT).mono ?_
  rintro e w' ⟨⟨v, rfl, hv⟩, hB⟩
  rw [hv.2 h]; exact ⟨rfl, hB⟩
theorem pTT_yes (p : Option Addr) (k n : Nat) (R : Nat → Nat → Bool) (a b c d : Nat) (w : World) (hk : TabOK k (fun _ => k) R) (h : TwoTwo k R a b c d) (hT : TblI w p k (fun _ => k) R) :
    Calls Tryd.prog 29 #[.slice p k n, .agg #[.int .i64 (a : Int), .int .i64 (b : Int), .int .i64 (c : Int), .int .i64 (d : Int)]] w fun e w' => e = .returned (.bool true) ∧ Below w.heap.size w w' := by
  refine (IsTwoTwo_any p k n _ R a b c d w (by have := hk.n12; omega) hT).mono ?_
  rintro e w' ⟨hb, hB⟩
  obtain ⟨h1, h2, h3, h4, _⟩ := id h
  exact ⟨hb.dec (b := true) ⟨fun _ => ⟨hk, ⟨⟨by omega, by omega⟩, ⟨by omega, by omega⟩, ⟨by omega, by omega⟩, ⟨by omega, by omega⟩⟩, h⟩, fun _ => rfl⟩, hB⟩
set_option maxRecDepth 100000 in
set_option maxHeartbeats 4000000 in
theorem law5 (a : Option Addr) (n cap : Nat) (ln : Nat → Nat) (r : Nat → Nat → Bool) (w : World) (hP : TabIn w a n cap ln r) (hT : Tab w) :
    Calls Tryd.prog 5 #[.slice a n cap] w fun e w' => e = .returned (.bool true) ∧ Below w.heap.size w w' := by
  have HTM := Lib.hid (tame_any a n cap ln r w hP)
  have HT := Lib.hid hT
  clear hP hT
  go_enter Tryd.func5, Tryd.ntmps5
  go_upto_region 2 with (go_at_call 22; refine HTM.out.mono ?_; rintro e w1 ⟨p, k, c, R, rfl, hT1, hok, hB1⟩; have HT1 := Lib.hid hT1; have HOK := Lib.hid hok; have HB1 := Lib.hid hB1; clear hT1 hok hB1)
  clear HTM
  have hk12 := HOK.out.n12
  obtain ⟨t3, ht3⟩ := boolOf (∃ x y z u, ThreeOne k R x y z u)
  have HT3 := Lib.hid ht3
  clear ht3
  have HMG := Lib.hid (mag_ok p k c R w1 HOK.out HT1.out)
  go_upto_region 3 with (go_at_call 23; refine HMG.out.mono ?_; rintro e w2 ⟨L, rfl, hL, hB2⟩; have HL := Lib.hid hL; have HT2 := Lib.hid (HT1.out.below hB2 (Nat.le_refl _)); have HB2 := Lib.hid (HB1.out.trans (hB2.mono HB1.out.size)); clear hL hB2)
  clear HMG
  obtain ⟨len, HLEN⟩ : ∃ len, Hid (L.length = len) := ⟨_, rfl⟩
  rw [HLEN.out]
  have HRM : Hid (∀ W, TblI W p k (fun _ => k) R → Calls Tryd.prog 27 #[.slice p k c] W fun e w' => e = .returned (.int .i64 (len : Int)) ∧ Below W.heap.size W w') := fun W hW => by
    have := rmag_ok p k c R L W HOK.out HL.out hW
    rw [HLEN.out] at this
    exact this
  have htb2 := HT.out.below HB2.out (Nat.le_refl _)
  by_cases h22 : ∃ a b c d, TwoTwo k R a b c d
  · have H22 := Lib.hid h22
    have HIV := Lib.hid (ivs_two p k c R w2 HOK.out h22 htb2 HT2.out)
    clear h22 htb2
    go_upto_region 4 with (go_at_call 24; refine HIV.out.mono ?_; rintro e w3 ⟨rfl, hB3⟩; have HT3' := Lib.hid (HT2.out.below hB3 (Nat.le_refl _)); have HB3 := Lib.hid (HB2.out.trans (hB3.mono HB2.out.size)); clear hB3)
    have HTY := Lib.hid (two_yes p k c R w3 HOK.out H22.out (HT.out.below HB3.out (Nat.le_refl _)) HT3'.out)
    clear HIV
    go_upto_region 5 with (go_at_call 25; refine HTY.out.mono ?_; rintro e w4 ⟨x0, x1, x2, x3, rfl, htt, hB4⟩; have HTT := Lib.hid htt; have HT4 := Lib.hid (HT3'.out.below hB4 (Nat.le_refl _)); have HB4 := Lib.hid (HB3.out.trans (hB4.mono HB3.out.size)); clear htt hB4)
    have HB5 := Lib.hid (HB4.out.alloc HB4.out.size (.cells #[.int .i64 (x0 : Int), .int .i64 (x1 : Int), .int .i64 (x2 : Int), .int .i64 (x3 : Int)] 45))
    have HT5 := Lib.hid (HT4.out.below ((Below.refl w4.heap.size w4).alloc (Nat.le_refl _) (.cells #[.int .i64 (x0 : Int), .int .i64 (x1 : Int), .int .i64 (x2 : Int), .int .i64 (x3 : Int)] 45)) (Nat.le_refl _))
    have HBN : Hid (BoxN (w4.alloc (.cells #[.int .i64 (x0 : Int), .int .i64 (x1 : Int), .int .i64 (x2 : Int), .int .i64 (x3 : Int)] 45)) w4.heap.size 45 #[.int .i64 (x0 : Int), .int .i64 (x1 : Int), .int .i64 (x2 : Int), .int .i64 (x3 : Int)]) := BoxN.new rfl
    obtain ⟨bx, hbx⟩ : ∃ bx, Hid (bx = w4.heap.size) := ⟨_, rfl⟩
    rw [← hbx.out] at HBN
    simp only [← hbx.out]
    generalize w4.alloc (.cells #[.int .i64 (x0 : Int), .int .i64 (x1 : Int), .int .i64 (x2 : Int), .int .i64 (x3 : Int)] 45) = X at *
    have hbX := HBN.out.lt
    have hwX : w.heap.size ≤ X.heap.size := HB5.out.size
    have HCX : Hid (∀ V, Below X.heap.size X V → V.cell? ⟨bx, 0, none⟩ = some (.int .i64 (x0 : Int)) ∧ V.cell? ⟨bx, 1, none⟩ = some (.int .i64 (x1 : Int)) ∧ V.cell? ⟨bx, 2, none⟩ = some (.int .i64 (x2 : Int)) ∧ V.cell? ⟨bx, 3, none⟩ = some (.int .i64 (x3 : Int))) := fun V hV => by
      refine ⟨(hV.cell (p := ⟨bx, 0, none⟩) hbX).trans ?_, (hV.cell (p := ⟨bx, 1, none⟩) hbX).trans ?_, (hV.cell (p := ⟨bx, 2, none⟩) hbX).trans ?_, (hV.cell (p := ⟨bx, 3, none⟩) hbX).trans ?_⟩ <;> rw [HBN.out.cell] <;> rfl
    have HHS := Lib.hid (has_at p k c R true t3 X HOK.out ⟨fun _ => H22.out, fun _ => rfl⟩ HT3.out HT5.out)
    clear HTY
    have q1 : (true != true) = false := rfl
    go_upto_region 9 with (first
      | (go_at_call 26; refine HHS.out.mono ?_; rintro e w6 ⟨rfl, hB6⟩; have HB6 := Lib.hid hB6; have HR6 := Lib.hid (HRM.out w6 (HT5.out.below hB6 (Nat.le_refl _))); clear hB6)
      | (go_at_call 27; refine HR6.out.mono ?_; rintro e w7 ⟨rfl, hB7⟩; have HB7 := Lib.hid (HB6.out.trans (hB7.mono HB6.out.size)); obtain ⟨d0, d1, d2, d3⟩ := HCX.out w7 HB7.out; clear hB7))
    have HTA : Hid (∀ V, Below X.heap.size X V → TblI V p k (fun _ => k) R) := fun V hV => HT5.out.below hV (Nat.le_refl _)
    have H28 := Lib.hid (rTT_yes p k c R x0 x1 x2 x3 w7 HOK.out HTT.out (HTA.out w7 HB7.out))
    clear HHS HR6 HRM
    go_wp2_with (first
      | (go_at_call 28; refine H28.out.mono ?_; rintro e w8 ⟨rfl, hB8⟩; have HB8 := Lib.hid (HB7.out.trans (hB8.mono HB7.out.size)); obtain ⟨e0, e1, e2, e3⟩ := HCX.out w8 HB8.out; have H29 := Lib.hid (pTT_yes p k c R x0 x1 x2 x3 w8 HOK.out HTT.out (HTA.out w8 HB8.out)); clear hB8)
      | (go_at_call 29; refine H29.out.mono ?_; rintro e w9 ⟨rfl, hB9⟩; have HB9 := Lib.hid (HB5.out.trans ((HB8.out.trans (hB9.mono HB8.out.size)).mono hwX)); have HAW := Lib.hid (awake_any w9 (HT.out.below HB9.out (Nat.le_refl _))); clear hB9)
      | (go_at_call 17; refine HAW.out.mono ?_; rintro e w10 ⟨rfl, hB10⟩; have HB10 := Lib.hid (HB9.out.trans (hB10.mono HB9.out.size)); clear hB10))
    go_ret
    exact ⟨rfl, HB10.out⟩
  · have HNO : Hid (∀ a b c d, ¬ TwoTwo k R a b c d) := fun a b c d h => h22 ⟨a, b, c, d, h⟩
    have HIV := Lib.hid (ivs_no p k c R L w2 HOK.out HL.out HNO.out htb2 HT2.out)
    have HN2 : Hid (false = true ↔ ∃ x y z u, TwoTwo k R x y z u) := Iff.intro (fun h => by cases h) (fun h => absurd h h22)
    clear h22 htb2
    go_upto_region 4 with (go_at_call 24; refine HIV.out.mono ?_; rintro e w3 ⟨q3, c3, rfl, hP3, hB3⟩; have HP3 := Lib.hid hP3; have HT3' := Lib.hid (HT2.out.below hB3 (Nat.le_refl _)); have HB3 := Lib.hid (HB2.out.trans (hB3.mono HB2.out.size)); clear hB3 hP3)
    have HTY := Lib.hid (two_no p k c R w3 HOK.out HNO.out (HT.out.below HB3.out (Nat.le_refl _)) HT3'.out)
    clear HIV
    go_upto_region 5 with (go_at_call 25; refine HTY.out.mono ?_; rintro e w4 ⟨rfl, hB4⟩; have HP4 := Lib.hid (HP3.out.below hB4 (Nat.le_refl _)); have HT4 := Lib.hid (HT3'.out.below hB4 (Nat.le_refl _)); have HB4 := Lib.hid (HB3.out.trans (hB4.mono HB3.out.size)); clear hB4)
    have HB5 := Lib.hid (HB4.out.alloc HB4.out.size (.cells #[.int .i64 0, .int .i64 0, .int .i64 0, .int .i64 0] 45))
    have HB45 : Hid (Below w4.heap.size w4 (w4.alloc (.cells #[.int .i64 0, .int .i64 0, .int .i64 0, .int .i64 0] 45))) := (Below.refl w4.heap.size w4).alloc (Nat.le_refl _) (.cells #[.int .i64 0, .int .i64 0, .int .i64 0, .int .i64 0] 45)
    have HT5 := Lib.hid (HT4.out.below HB45.out (Nat.le_refl _))
    have HP5 := Lib.hid (HP4.out.below HB45.out (Nat.le_refl _))
    have HBN : Hid (BoxN (w4.alloc (.cells #[.int .i64 0, .int .i64 0, .int .i64 0, .int .i64 0] 45)) w4.heap.size 45 #[.int .i64 0, .int .i64 0, .int .i64 0, .int .i64 0]) := BoxN.new rfl
    clear HB45
    obtain ⟨bx, hbx⟩ : ∃ bx, Hid (bx = w4.heap.size) := ⟨_, rfl⟩
    rw [← hbx.out] at HBN
    simp only [← hbx.out]
    generalize w4.alloc (.cells #[.int .i64 0, .int .i64 0, .int .i64 0, .int .i64 0] 45) = X at *
    have hbX := HBN.out.lt
    have hwX : w.heap.size ≤ X.heap.size := HB5.out.size
    have HCX : Hid (∀ V, Below X.heap.size X V → V.cell? ⟨bx, 0, none⟩ = some (.int .i64 0) ∧ V.cell? ⟨bx, 1, none⟩ = some (.int .i64 0) ∧ V.cell? ⟨bx, 2, none⟩ = some (.int .i64 0) ∧ V.cell? ⟨bx, 3, none⟩ = some (.int .i64 0)) := fun V hV => by
      refine ⟨(hV.cell (p := ⟨bx, 0, none⟩) hbX).trans ?_, (hV.cell (p := ⟨bx, 1, none⟩) hbX).trans ?_, (hV.cell (p := ⟨bx, 2, none⟩) hbX).trans ?_, (hV.cell (p := ⟨bx, 3, none⟩) hbX).trans ?_⟩ <;> rw [HBN.out.cell] <;> rfl
    have HHS := Lib.hid (has_at p k c R false t3 X HOK.out HN2.out HT3.out HT5.out)
    clear HTY
    go_upto_region 10 with (first
      | (go_at_call 26; refine HHS.out.mono ?_; rintro e w6 ⟨rfl, hB6⟩; have HB6 := Lib.hid hB6; have HR6 := Lib.hid (HRM.out w6 (HT5.out.below hB6 (Nat.le_refl _))); clear hB6)
      | (go_at_call 27; refine HR6.out.mono ?_; rintro e w7 ⟨rfl, hB7⟩; have HB7 := Lib.hid (HB6.out.trans (hB7.mono HB6.out.size)); obtain ⟨d0, d1, d2, d3⟩ := HCX.out w7 HB7.out; clear hB7))
    clear HHS HR6 HRM
    have H31 := Lib.hid (rCanon_any p k c R w7 hk12 (HT5.out.below HB7.out (Nat.le_refl _)))
    have H30 : Hid (∀ V q d, Below X.heap.size X V → Pairs V q (canonPs k R L) → Calls Tryd.prog 30 #[.slice q3 k c3, .slice q k d] V fun e w' => e = .returned (.bool true) ∧ ∃ z, w' = V.drewN z) := fun V q d hV hq => pairs_any q3 q k c3 d (canonPs k R L) V (canonPs_len _ _ _) (by omega) (HP5.out.below hV (Nat.le_refl _)) hq
    go_wp2_with (first
      | (go_at_call 31; refine H31.out.mono ?_; rintro e w8 ⟨q8, c8, L8, rfl, hL8, hP8, hB8⟩; have HB8 := Lib.hid (HB7.out.trans (hB8.mono HB7.out.size)); rw [hL8.unique HL.out] at hP8; have H30' := Lib.hid (H30.out w8 q8 c8 HB8.out hP8); clear hB8 hP8 hL8)
      | (go_at_call 30; refine H30'.out.mono ?_; rintro e w9 ⟨rfl, z9, hw9⟩; subst hw9; have HB9 := Lib.hid (HB5.out.trans ((below_dr HB8.out z9).mono hwX)); have HAW := Lib.hid (awake_any _ (HT.out.below HB9.out (Nat.le_refl _))))
      | (go_at_call 17; refine HAW.out.mono ?_; rintro e w10 ⟨rfl, hB10⟩; have HB10 := Lib.hid (HB9.out.trans (hB10.mono HB9.out.size)); clear hB10))
    go_ret
    exact ⟨rfl, HB10.out⟩
end Go.Proofs.YtgpijajgaclhfaaDoor
namespace Go.Proofs.YtgpijajgaclhfaaDoor
open Go.RowKit

/-- the different ends of m intervals -/
structure EndsP (l u : Nat → Int) (m : Nat) (all : List Int) : Prop where
  nd : all.Nodup
  mem : ∀ v, v ∈ all ↔ ∃ i, i < m ∧ (v = l i ∨ v = u i)
theorem EndsP.len {l u : Nat → Int} {m : Nat} {a b : List Int} (h : EndsP l u m a) (k : EndsP l u m b) : a.length = b.length :=
  Nat.le_antisymm (nodup_in a b h.nd fun x hx => (k.mem x).2 ((h.mem x).1 hx)) (nodup_in b a k.nd fun x hx => (h.mem x).2 ((k.mem x).1 hx))
/-- the canonical intervals have as many ends as there are sets before -/
theorem canon_ends {n : Nat} {r : Nat → Nat → Bool} {L : List Nat} {all : List Int} (O : OrdP n r) (hn : 1 ≤ n) (h64 : n ≤ 64) (h : SetsL n r L) (h22 : ∀ a b c d, ¬ TwoTwo n r a b c d)
    (E : EndsP (fun y => (lftS L (bef n r y) : Int)) (fun x => (rgtTo L x L.length : Int)) n all) : all.length = L.length := by
  have h1 := (h.first O hn h64).1
  have hR : EndsP (fun y => (lftS L (bef n r y) : Int)) (fun x => (rgtTo L x L.length : Int)) n ((List.range L.length).map fun (k : Nat) => (k : Int)) := by
    refine ⟨?_, fun v => ?_⟩
    · unfold List.Nodup
      rw [List.pairwise_map]
      exact List.pairwise_lt_range.imp fun hlt e => by omega
    · rw [List.mem_map]
      constructor
      · rintro ⟨k, hk, rfl⟩
        rw [List.mem_range] at hk
        have hm : nthN L k ∈ L := by unfold nthN; rw [List.getElem?_eq_getElem hk]; exact List.getElem_mem hk
        obtain ⟨y, hy, ey⟩ := (h.mem _).1 hm
        refine ⟨y, hy, .inl ?_⟩
        have := h.idx hk
        rw [ey] at this
        show (k : Int) = (lftS L (bef n r y) : Int)
        rw [this]
      · rintro ⟨i, hi, e | e⟩
        · exact ⟨lftS L (bef n r i), List.mem_range.2 (h.at hi).1, e.symm⟩
        · exact ⟨rgtTo L i L.length, List.mem_range.2 (rgtTo_spec O hn h64 h h22 i L.length h1 (Nat.le_refl _)).1, e.symm⟩
  rw [E.len hR, List.length_map, List.length_range]
/-- no intervals that represent the order have fewer ends -/
theorem fewest_ends {l u : Nat → Int} {n : Nat} {L : List Nat} {all : List Int} (h : SetsL n (ivR l u n) L) (E : EndsP l u n all) : L.length ≤ all.length := by
  have hch : ∀ s, ∃ y, s ∈ L → y < n ∧ s = bef n (ivR l u n) y := fun s => by
    by_cases hs : s ∈ L
    · obtain ⟨y, hy⟩ := (h.mem s).1 hs
      exact ⟨y, fun _ => hy⟩
    · exact ⟨0, fun h => absurd h hs⟩
  have hf : ∃ f : Nat → Nat, ∀ s, s ∈ L → f s < n ∧ s = bef n (ivR l u n) (f s) := ⟨fun s => Classical.choose (hch s), fun s => Classical.choose_spec (hch s)⟩
  obtain ⟨f, hf⟩ := hf
  have := nodup_in (L.map fun s => l (f s)) all (by
    unfold List.Nodup
    rw [List.pairwise_map]
    refine List.Pairwise.imp_of_mem ?_ h.nodup
    intro a b ha hb hab e
    have h1 := hf a ha
    have h2 := hf b hb
    exact hab (by rw [h1.2, h2.2]; exact ivR_left h1.1 h2.1 e)) fun v hv => by
    obtain ⟨s, hs, rfl⟩ := List.mem_map.1 hv
    exact (E.mem _).2 ⟨f s, (hf s hs).1, .inl rfl⟩
  rwa [List.length_map] at this
end Go.Proofs.YtgpijajgaclhfaaDoor
namespace Go.Proofs.YtgpijajgaclhfaaDoor
open Go.RowKit Go.Shelf

def ii (l : List Int) : List Value := l.map fun v => .int .i64 v
theorem ii_len (l : List Int) : (ii l).length = l.length := by simp [ii]
theorem ii_one (l : List Int) : ∀ u ∈ ii l, u.oneCell' = true := fun u hu => by
  obtain ⟨j, _, rfl⟩ := List.mem_map.1 hu; rfl
theorem ii_app (l : List Int) (v : Int) : ii (l ++ [v]) = ii l ++ [.int .i64 v] := by simp [ii]
theorem ii_get {l : List Int} {j : Nat} (hj : j < l.length) : (ii l)[j]? = some (.int .i64 (l[j]?.getD 0)) := by
  unfold ii; rw [List.getElem?_map, List.getElem?_eq_getElem hj]; rfl
/-- the k-th end of the i-th interval -/
def evE (l u : Nat → Int) (i k : Nat) : Int := if k = 0 then l i else u i
/-- the different ends that have been seen -/
structure EndsTo (l u : Nat → Int) (i k : Nat) (all : List Int) : Prop where
  nd : all.Nodup
  mem : ∀ v, v ∈ all ↔ ∃ i' k', k' < 2 ∧ (i' < i ∨ (i' = i ∧ k' < k)) ∧ v = evE l u i' k'
theorem EndsTo.next {l u : Nat → Int} {i : Nat} {all : List Int} (h : EndsTo l u i 2 all) : EndsTo l u (i + 1) 0 all :=
  ⟨h.nd, fun v => (h.mem v).trans ⟨fun ⟨i', k', h1, h2, h3⟩ => ⟨i', k', h1, by omega, h3⟩, fun ⟨i', k', h1, h2, h3⟩ => ⟨i', k', h1, by omega, h3⟩⟩⟩
theorem EndsTo.old {l u : Nat → Int} {i k : Nat} {all : List Int} (h : EndsTo l u i k all) (hm : evE l u i k ∈ all) : EndsTo l u i (k + 1) all :=
  ⟨h.nd, fun v => by
    constructor
    · intro hv
      obtain ⟨i', k', h1, h2, h3⟩ := (h.mem v).1 hv
      exact ⟨i', k', h1, by omega, h3⟩
    · rintro ⟨i', k', h1, h2, h3⟩
      by_cases e : i' = i ∧ k' = k
      · rw [h3, e.1, e.2]; exact hm
      · exact (h.mem v).2 ⟨i', k', h1, by omega, h3⟩⟩
theorem EndsTo.new {l u : Nat → Int} {i k : Nat} {all : List Int} (h : EndsTo l u i k all) (hk : k < 2) (hm : evE l u i k ∉ all) : EndsTo l u i (k + 1) (all ++ [evE l u i k]) where
  nd := by
    rw [List.nodup_append]
    refine ⟨h.nd, by simp, fun a ha b hb e => ?_⟩
    rw [List.mem_singleton] at hb
    subst hb; subst e; exact hm ha
  mem := fun v => by
    rw [List.mem_append, List.mem_singleton]
    constructor
    · rintro (hv | hv)
      · obtain ⟨i', k', h1, h2, h3⟩ := (h.mem v).1 hv
        exact ⟨i', k', h1, by omega, h3⟩
      · exact ⟨i, k, hk, by omega, hv⟩
    · rintro ⟨i', k', h1, h2, h3⟩
      by_cases e : i' = i ∧ k' = k
      · rw [h3, e.1, e.2]; exact .inr rfl
      · exact .inl ((h.mem v).2 ⟨i', k', h1, by omega, h3⟩)
theorem EndsTo.all {l u : Nat → Int} {m : Nat} {all : List Int} (h : EndsTo l u m 0 all) : EndsP l u m all :=
  ⟨h.nd, fun v => (h.mem v).trans ⟨fun ⟨i', k', h1, h2, h3⟩ => ⟨i', by omega, by
    unfold evE at h3; split at h3
    · exact .inl h3
    · exact .inr h3⟩, fun ⟨i, hi, h3⟩ => h3.elim (fun h => ⟨i, 0, by omega, by omega, h⟩) (fun h => ⟨i, 1, by omega, by omega, h⟩)⟩⟩
set_option maxRecDepth 100000 in
set_option maxHeartbeats 8000000 in
theorem ends_any (p : Option Addr) (c : Nat) (ps : List (Int × Int)) (w : World) (hl : ps.length ≤ 13) (hP : Pairs w p ps) :
    Calls Tryd.prog 32 #[.slice p ps.length c] w fun e w' => ∃ all, e = .returned (.int .i64 (all.length : Nat)) ∧ EndsP (la ps) (ua ps) ps.length all ∧ Below w.heap.size w w' := by
  obtain ⟨i0, hi0, hz0, hz1, hz2⟩ := info_parts info3
  have HP := Lib.hid hP
  obtain ⟨m, HM⟩ : ∃ m, Hid (ps.length = m) := ⟨_, rfl⟩
  rw [HM.out] at hl ⊢
  clear hP
  go_enter Tryd.func32, Tryd.ntmps32
  go_upto_region 3 with (fail)
  go_loopw [3, 4] (fun s3 s4 wr => ∃ (i len : Nat) (all : List Int), i ≤ m ∧ s4 = .int .i64 (i : Int) ∧ all.length = len ∧ len ≤ 2 * i ∧ QRow wr w.heap.size 3 1 s3 len (ii all) ∧ Hid (EndsTo (la ps) (ua ps) i 0 all) ∧ Hid (Below w.heap.size w wr)) (fun _ s4 _ => m - (intOf s4).toNat)
  case atStart => exact ⟨0, 0, [], by omega, rfl, rfl, by omega, QRow.nil _ _ _ _, ⟨List.Pairwise.nil, fun v => Iff.intro (fun h => by cases h) (fun ⟨i', k', _, h, _⟩ => by omega)⟩, Below.refl _ _⟩
  case round =>
    obtain ⟨i, len, all, hi, rfl, hal, hlen, hq, hE, hB⟩ := hrel
    have HAL := Lib.hid hal
    clear hal
    obtain ⟨pa, ca, rfl⟩ := hq.isSlice
    by_cases him : i < m
    · have g1 : (i : Int) < (m : Int) := by omega
      have g0 : (0 : Int) ≤ (i : Int) := by omega
      obtain ⟨b, o, rfl, hb, k1, k2⟩ := HP.out.at (k := i) (by rw [HM.out]; exact him)
      have HEV : Hid (∀ k, k < 2 → ∀ W, Below w.heap.size w W → W.cell? ⟨b, o + i * 2 + k, none⟩ = some (.int .i64 (evE (la ps) (ua ps) i k))) := fun k hk W hW => by
        refine (hW.cell (p := ⟨b, o + i * 2 + k, none⟩) hb).trans ?_
        rcases (show k = 0 ∨ k = 1 by omega) with rfl | rfl
        · exact k1
        · exact k2
      clear k1 k2
      go_upto_region 6 with (fail)
      go_loopw [3, 5] (fun s3 s5 wr => ∃ (k len : Nat) (all : List Int), k ≤ 2 ∧ s5 = .int .i64 (k : Int) ∧ all.length = len ∧ len ≤ 2 * i + k ∧ QRow wr w.heap.size 3 1 s3 len (ii all) ∧ Hid (EndsTo (la ps) (ua ps) i k all) ∧ Hid (Below w.heap.size w wr)) (fun _ s5 _ => 2 - (intOf s5).toNat)
      case atStart => exact ⟨0, len, all, by omega, rfl, HAL.out, by omega, hq, hE, hB⟩
      case round =>
        clear hq hE hB HAL hlen
        obtain ⟨k, len, all, hk, rfl, hal, hlen, hq, hE, hB⟩ := hrel
        have HAL := Lib.hid hal
        clear hal
        obtain ⟨pa, ca, rfl⟩ := hq.isSlice
        by_cases hk2 : k < 2
        · have g2 : (k : Int) < 2 := by omega
          have g3 : (0 : Int) ≤ (k : Int) := by omega
          have g4 : (k : Int) < ((2 : Nat) : Int) := by omega
          obtain ⟨v, hv⟩ : ∃ v, Hid (v = evE (la ps) (ua ps) i k) := ⟨_, rfl⟩
          have HRN : Hid (∀ j, j < len → ∃ b o, pa = some ⟨b, o, none⟩ ∧ wr.cell? ⟨b, o + j, none⟩ = some (.int .i64 (all[j]?.getD 0))) := fun j hj => by
            obtain ⟨b, o, cap, e, _, hb, _, _, hc, _⟩ := hq.at (by omega)
            cases e
            exact ⟨b, o, rfl, (hc j (by omega)).trans (ii_get (by rw [HAL.out]; exact hj))⟩
          have HQ := Lib.hid hq
          have hk1 := HEV.out k hk2 wr hB.out
          rw [← hv.out] at hk1
          clear hq
          obtain ⟨wo, hwo⟩ : ∃ wo, Hid (wo = wr) := ⟨_, rfl⟩
          rw [← hwo.out] at hB HQ HRN hk1 ⊢
          clear hwo
          go_upto_region 10 with (fail)
          go_loopw [6, 7] (fun s6 s7 wr => ∃ (j : Nat) (f : Bool), j ≤ len ∧ s7 = .int .i64 (j : Int) ∧ s6 = .bool f ∧ Hid (f = true ↔ ∀ j', j' < j → all[j']?.getD 0 ≠ v) ∧ ∃ z, Hid (wr = wo.drewN z)) (fun _ s7 _ => len - (intOf s7).toNat)
          case atStart => exact ⟨0, true, by omega, rfl, rfl, ⟨fun _ j' h => by omega, fun _ => rfl⟩, 0, rfl⟩
          case round =>
            obtain ⟨j, f, hj, rfl, rfl, hf, z, hw⟩ := hrel
            rw [hw.out]
            clear hw
            by_cases hjl : j < len
            · have g5 : (j : Int) < (len : Int) := by omega
              have g6 : (0 : Int) ≤ (j : Int) := by omega
              obtain ⟨bz, oz, rfl, hcz⟩ := HRN.out j hjl
              obtain ⟨y, hy⟩ : ∃ y, Hid (y = all[j]?.getD 0) := ⟨_, rfl⟩
              rw [← hy.out] at hcz
              have HN : Hid (∀ f2 : Bool, (f2 = true ↔ f = true ∧ y ≠ v) → (f2 = true ↔ ∀ j', j' < j + 1 → all[j']?.getD 0 ≠ v)) := fun f2 h => h.trans ⟨fun h2 j' hj' => by
                by_cases e : j' = j
                · subst e; rw [← hy.out]; exact h2.2
                · exact hf.out.1 h2.1 j' (by omega), fun h2 => ⟨hf.out.2 fun j' hj' => h2 j' (by omega), by rw [hy.out]; exact h2 j (by omega)⟩⟩
              cases f
              · have HF := Lib.hid (HN.out false (by simp))
                clear HN
                go_wp2
                go_quiet (fail)
                go_wp2
                exact ⟨⟨j + 1, false, by omega, int_eq (by omega), rfl, HF, _, rfl⟩, by simp [intOf]; omega⟩
              · by_cases e : y = v
                · have q1 : (y != v) = false := by rw [e]; simp
                  have HF := Lib.hid (HN.out false (by simp [e]))
                  clear HN e
                  go_wp2
                  go_quiet (fail)
                  go_wp2
                  exact ⟨⟨j + 1, false, by omega, int_eq (by omega), rfl, HF, _, rfl⟩, by simp [intOf]; omega⟩
                · have q1 : (y != v) = true := by rw [bne_iff_ne]; exact e
                  have HF := Lib.hid ((HN.out true (by simp [e])).1 rfl)
                  clear HN e
                  go_wp2
                  go_quiet (fail)
                  go_wp2
                  exact ⟨⟨j + 1, true, by omega, int_eq (by omega), rfl, ⟨fun _ => HF.out, fun _ => rfl⟩, _, rfl⟩, by simp [intOf]; omega⟩
            · have g5 : ¬ (j : Int) < (len : Int) := by omega
              obtain rfl : len = j := by omega
              have HIN : Hid (f = true ↔ evE (la ps) (ua ps) i k ∉ all) := by
                refine hf.out.trans ⟨fun h hm => ?_, fun h j' hj' e => h ?_⟩
                · obtain ⟨j', hj', e⟩ := List.mem_iff_getElem.1 hm
                  refine h j' (by rw [← HAL.out]; exact hj') ?_
                  rw [List.getElem?_eq_getElem hj', hv.out]; exact e
                · rw [← hv.out, ← e, List.getElem?_eq_getElem (by rw [HAL.out]; exact hj')]; exact List.getElem_mem _
              have HQz : Hid (QRow (wo.drewN z) w.heap.size 3 1 (.slice pa len ca) len (ii all)) := HQ.out
              have HBz := Lib.hid (below_dr hB.out z)
              have hszz : w.heap.size ≤ (wo.drewN z).heap.size := HBz.out.size
              have hk1z : (wo.drewN z).cell? ⟨b, o + i * 2 + k, none⟩ = some (.int .i64 v) := hk1
              clear hk1
              generalize wo.drewN z = Z at *
              cases f
              · have HE2 : Hid (EndsTo (la ps) (ua ps) i (k + 1) all) := hE.out.old (Classical.byContradiction fun h => by cases HIN.out.2 h)
                go_wp2
                exact ⟨⟨k + 1, len, all, by omega, int_eq (by omega), HAL.out, by omega, HQz.out, HE2, HBz⟩, by simp [intOf]; omega⟩
              · have HE2 : Hid (EndsTo (la ps) (ua ps) i (k + 1) (all ++ [v])) := by rw [hv.out]; exact hE.out.new hk2 (HIN.out.1 rfl)
                have HAL2 : Hid ((all ++ [v]).length = len + 1) := by unfold Hid; rw [List.length_append, HAL.out]; rfl
                have HQA := Lib.hid (HQz.out.alloc (.cells #[.int .i64 v] 3))
                have HLT := Lib.hid (fun kk (e : _ = some kk) => (HQz.out.lt kk e).1)
                go_wp2_with (at_builtin; go_must (refine wpList_append_q _ rfl (.tmp 39) (.tmp 46) 28 rfl w.heap.size 3 i0 (.int .i64 0) 1 8 Tryd.underlying28 hi0 hz0 hz1 hz2 rfl (by decide) _ len (ii all) rfl HQA.out ⟨_, 0, none⟩ 1 1 [.int .i64 v] rfl rfl (cells_new1 _ _ _) (by simp [Value.oneCell']) (by unfold maxLen; omega) (by omega) (by simp; omega) ?_); intro v7 w7 hq7 hg7 ho7; have HQ7 : Hid (QRow w7 w.heap.size 3 1 v7 (len + 1) (ii (all ++ [v]))) := (by rw [ii_app]; exact hq7); have HB7 : Hid (Below w.heap.size w w7) := Below.grown (HBz.out.alloc hszz _) hg7 (by simp; omega) (fun kk e => HLT.out kk e); clear hq7 hg7 ho7)
                exact ⟨⟨k + 1, len + 1, all ++ [v], by omega, int_eq (by omega), HAL2.out, by omega, HQ7.out, HE2, HB7⟩, by simp [intOf]; omega⟩
        · have g2 : ¬ (k : Int) < 2 := by omega
          obtain rfl : k = 2 := by omega
          have HE2 := Lib.hid hE.out.next
          go_wp2
          exact ⟨⟨i + 1, len, all, by omega, int_eq (by omega), HAL.out, by omega, hq, HE2, hB⟩, by simp [intOf]; omega⟩
    · have g1 : ¬ (i : Int) < (m : Int) := by omega
      obtain rfl : m = i := by omega
      go_wp2
      go_ret
      exact ⟨all, by rw [HAL.out]; rfl, hE.out.all, hB.out⟩
end Go.Proofs.YtgpijajgaclhfaaDoor
namespace Go.Proofs.YtgpijajgaclhfaaDoor
open Go.RowKit Go.Shelf

theorem CkI.zero {ps : List (Int × Int)} {c : Int} (h : CkI ps c) : c = 0 ↔ ivsOK ps := by
  rcases h with ⟨rfl, h⟩ | ⟨rfl, _, h⟩ | ⟨rfl, h⟩
  · refine ⟨fun e => ?_, fun h2 => ?_⟩
    · cases e
    · have := h2.2.1; omega
  · refine ⟨fun e => ?_, fun h2 => absurd h2 h⟩
    cases e
  · exact ⟨fun _ => h, fun _ => rfl⟩
theorem CkI.code (ps : List (Int × Int)) : ∃ c : Int, CkI ps c ∧ 0 ≤ c ∧ c ≤ 2 := by
  by_cases h : ivsOK ps
  · exact ⟨0, .inr (.inr ⟨rfl, h⟩), by decide, by decide⟩
  · by_cases h2 : 12 < ps.length
    · exact ⟨2, .inl ⟨rfl, h2⟩, by decide, by decide⟩
    · exact ⟨1, .inr (.inl ⟨rfl, by omega, h⟩), by decide, by decide⟩
/-- the two ways of each function -/
theorem from_ok (a : Option Addr) (cap : Nat) (ps : List (Int × Int)) (w : World) (hok : ivsOK ps) (hg : Pairs w a ps) :
    Calls Tryd.prog 14 #[.slice a ps.length cap] w fun e w' => ∃ p c, e = .returned (.tuple #[.slice p ps.length c, .int .i64 0]) ∧ TblI w' p ps.length (fun _ => ps.length) (relI ps) ∧ Below w.heap.size w w' := by
  refine (FromIv_any a cap ps w (by have := hok.2.1; omega) hg).mono ?_
  rintro e w' ⟨⟨c, rfl, hc, h0⟩ | ⟨v, rfl, _, hT⟩, hB⟩
  · exact absurd (hc.zero.2 hok) h0
  · obtain ⟨p, c, rfl⟩ := hT.isSlice
    exact ⟨p, c, rfl, hT.tbl, hB⟩
theorem from_bad (a : Option Addr) (cap : Nat) (ps : List (Int × Int)) (w : World) (c : Int) (hc : CkI ps c) (h0 : c ≠ 0) (hl : ps.length ≤ 1000) (hg : Pairs w a ps) :
    Calls Tryd.prog 14 #[.slice a ps.length cap] w fun e w' => e = .returned (.tuple #[.slice none 0 0, .int .i64 c]) ∧ Below w.heap.size w w' := by
  refine (FromIv_any a cap ps w (by omega) hg).mono ?_
  rintro e w' ⟨⟨d, rfl, hd, _⟩ | ⟨v, rfl, hok, _⟩, hB⟩
  · rw [hc.unique hd]; exact ⟨rfl, hB⟩
  · exact absurd (hc.zero.2 hok) h0
theorem boats_ok (a : Option Addr) (cap : Nat) (ps : List (Int × Int)) (w : World) (hok : ivsOK ps) (hg : Pairs w a ps) :
    Calls Tryd.prog 15 #[.slice a ps.length cap] w fun e w' => ∃ (p : Option Addr) (out : Nat → Nat) (many : Nat) (peak : Int), e = .returned (.tuple #[.slice p ps.length ps.length, .int .i64 peak, .int .i64 0]) ∧ PeakP (la ps) (ua ps) ps.length many peak ∧ RightP (la ps) (ua ps) ps.length many out ∧ (∃ x, x < ps.length ∧ out x + 1 = many) ∧ SrcI w' p ps.length (fun x => (out x : Int)) ∧ Below w.heap.size w w' := by
  refine (Boats_any a cap ps w (by have := hok.2.1; omega) hg).mono ?_
  rintro e w' ⟨⟨c, rfl, hc, h0⟩ | ⟨B, os, out, most, peak, rfl, _, hO, hI, hP, _, hR⟩, hB⟩
  · exact absurd (hc.zero.2 hok) h0
  · have hp := hP.peak hO hok.1
    have hr := hI.right hO hp
    exact ⟨_, out, most, peak, rfl, hp, ⟨hr.1, fun x y hx hy h => hr.2 x y hx (by omega) (by omega) h.2.1 h.2.2 h.1⟩, hI.last hO hp, fun hn => ⟨B, 0, rfl, hR.lt, fun j hj => by rw [Nat.zero_add]; exact hR.cell hj⟩, hB⟩
theorem boats_bad (a : Option Addr) (cap : Nat) (ps : List (Int × Int)) (w : World) (c : Int) (hc : CkI ps c) (h0 : c ≠ 0) (hl : ps.length ≤ 1000) (hg : Pairs w a ps) :
    Calls Tryd.prog 15 #[.slice a ps.length cap] w fun e w' => e = .returned (.tuple #[.slice none 0 0, .int .i64 0, .int .i64 c]) ∧ Below w.heap.size w w' := by
  refine (Boats_any a cap ps w (by omega) hg).mono ?_
  rintro e w' ⟨⟨d, rfl, hd, _⟩ | ⟨B, os, out, most, peak, rfl, hok, _⟩, hB⟩
  · rw [hc.unique hd]; exact ⟨rfl, hB⟩
  · exact absurd (hc.zero.2 hok) h0
set_option maxRecDepth 100000 in
set_option maxHeartbeats 4000000 in
theorem law3 (a : Option Addr) (cap : Nat) (ps : List (Int × Int)) (w : World) (hP : PairsIn w a cap ps) (hT : Tab w) :
    Calls Tryd.prog 3 #[.slice a ps.length cap] w fun e w' => e = .returned (.bool true) ∧ Below w.heap.size w w' := by
  have HSP := Lib.hid (spans_any a cap ps w hP)
  have HT := Lib.hid hT
  clear hP hT
  obtain ⟨len, HLEN⟩ : ∃ len, Hid (ps.length = len) := ⟨_, rfl⟩
  rw [HLEN.out] at HSP ⊢
  obtain ⟨qs, hqs⟩ : ∃ qs, Hid (qs = ps.take 13) := ⟨_, rfl⟩
  rw [← hqs.out] at HSP
  have hql : qs.length ≤ 13 := by rw [hqs.out, List.length_take]; omega
  have HQL := Lib.hid hql
  obtain ⟨m, HM⟩ : ∃ m, Hid (qs.length = m) := ⟨_, rfl⟩
  rw [HM.out] at HSP hql
  clear hqs
  obtain ⟨c, hc, hc0, hc2⟩ := CkI.code qs
  have HC := Lib.hid hc
  clear hc
  go_enter Tryd.func3, Tryd.ntmps3
  go_upto_region 2 with (go_at_call 13; refine HSP.out.mono ?_; rintro e w1 ⟨p, cp, rfl, hP1, hB1⟩; have HP1 := Lib.hid hP1; have HB1 := Lib.hid hB1; clear hP1 hB1)
  have HR := Lib.hid (fun W (hW : Pairs W p qs) => rIntervals_any p cp qs W (by have := HQL.out; omega) hW)
  have HR : Hid (∀ W, Pairs W p qs → Calls Tryd.prog 16 #[.slice p m cp] W fun e w' => e = .returned (.int .i64 c) ∧ ∃ q, w' = W.drewN q) := fun W hW => by
    have := HR.out W hW
    rw [HM.out] at this
    refine this.mono ?_
    rintro e w' ⟨⟨d, rfl, hd⟩, h⟩
    rw [HC.out.unique hd]; exact ⟨rfl, h⟩
  by_cases h0 : c = 0
  · have hok := HC.out.zero.1 h0
    have HOK := Lib.hid hok
    subst h0
    have HF := Lib.hid (from_ok p cp qs w1 hok HP1.out)
    rw [HM.out] at HF
    clear hok
    go_upto_region 3 with (go_at_call 14; refine HF.out.mono ?_; rintro e w2 ⟨p2, c2, rfl, hT2, hB2⟩; have HT2 := Lib.hid hT2; have HB2 := Lib.hid (HB1.out.trans (hB2.mono HB1.out.size)); have HP2 := Lib.hid (HP1.out.below hB2 (Nat.le_refl _)); clear hT2 hB2)
    have HG := Lib.hid (boats_ok p cp qs w2 HOK.out HP2.out)
    rw [HM.out] at HG
    clear HF
    go_upto_region 4 with (go_at_call 15; refine HG.out.mono ?_; rintro e w3 ⟨p3, out, many, peak, rfl, hpk, hri, hla, hs3, hB3⟩; have HPK := Lib.hid hpk; have HRI := Lib.hid hri; have HS3 := Lib.hid hs3; have HT3 := Lib.hid (HT2.out.below hB3 (Nat.le_refl _)); have HB3 := Lib.hid (HB2.out.trans (hB3.mono HB2.out.size)); have HP3 := Lib.hid (HP2.out.below hB3 (Nat.le_refl _)); clear hpk hri hla hs3 hB3)
    clear HG
    have HR4 := Lib.hid (HR.out w3 HP3.out)
    go_upto_region 7 with (go_at_call 16; refine HR4.out.mono ?_; rintro e w4 ⟨rfl, q4, hw4⟩; subst hw4)
    clear HR4 HR
    have HPK2 := Lib.hid (rPeak_any p cp qs (w3.drewN q4) HOK.out (HP3.out.below (below_dr (Below.refl w3.heap.size _) q4) (Nat.le_refl _)))
    have HPK3 : Hid (Calls Tryd.prog 18 #[.slice p m cp] (w3.drewN q4) fun e w' => e = .returned (.tuple #[.int .i64 (many : Int), .int .i64 peak]) ∧ ∃ q, w' = w3.drewN q) := by
      have := HPK2.out
      rw [HM.out] at this
      refine this.mono ?_
      rintro e w' ⟨⟨m2, a2, rfl, h2⟩, q, rfl⟩
      have := h2.unique HPK.out
      rw [this.1, this.2]
      exact ⟨rfl, _, World.drewN_drewN _ _ _⟩
    clear HPK2
    go_upto_region 8 with (go_at_call 18; refine HPK3.out.mono ?_; rintro e w5 ⟨rfl, q5, hw5⟩; subst hw5)
    clear HPK3
    have hmm : m ≤ 12 := by have := HOK.out.2.1; rw [HM.out] at this; exact this
    have HBX := Lib.hid (below_dr HB3.out q5)
    have HPX := Lib.hid (HP3.out.below (below_dr (Below.refl w3.heap.size _) q5) (Nat.le_refl _))
    have HTX := Lib.hid (HT3.out.below (below_dr (Below.refl w3.heap.size _) q5) (Nat.le_refl _))
    have HSX : Hid (SrcI (w3.drewN q5) p3 m (fun x => (out x : Int))) := HS3.out.below (below_dr (Below.refl w3.heap.size _) q5) (Nat.le_refl _)
    generalize w3.drewN q5 = X at *
    have HOF := Lib.hid (rOf_any p cp qs X (by have := HOK.out.2.1; omega) HPX.out)
    rw [HM.out] at HOF
    have hBX : w.heap.size ≤ X.heap.size := HBX.out.size
    have HSM : Hid (∀ V po co, Below X.heap.size X V → TblI V po m (fun _ => m) (relI qs) → Calls Tryd.prog 19 #[.slice p2 m c2, .slice po m co] V fun e w' => e = .returned (.bool true) ∧ ∃ q, w' = V.drewN q) := fun V po co hB hT => by
      refine (rSame_any p2 po m c2 co (relI qs) (relI qs) V (by omega) (HTX.out.below hB (Nat.le_refl _)) hT).mono ?_
      rintro e w' ⟨h1, h2⟩
      exact ⟨h1.dec (b := true) ⟨fun _ _ _ _ _ => rfl, fun _ => rfl⟩, h2⟩
    have HRT : Hid (∀ V, Below X.heap.size X V → Calls Tryd.prog 21 #[.slice p m cp, .slice p3 m m, .int .i64 (many : Int)] V fun e w' => e = .returned (.bool true) ∧ ∃ q, w' = V.drewN q) := fun V hB => by
      have := rRight_any p p3 cp m many qs out V (by have := HOK.out.2.1; omega) (HPX.out.below hB (Nat.le_refl _)) (by rw [HM.out]; exact HSX.out.below hB (Nat.le_refl _)) (by rw [HM.out]; exact HRI.out)
      rw [HM.out] at this
      exact this
    go_wp2_with (first
      | (go_at_call 20; refine HOF.out.mono ?_; rintro e w6 ⟨v6, rfl, hT6, hB6⟩; obtain ⟨p6, c6, rfl⟩ := hT6.isSlice; have HSM6 := Lib.hid (HSM.out w6 p6 c6 hB6 hT6.tbl); have HB6 := Lib.hid hB6; clear hT6 hB6)
      | (go_at_call 19; refine HSM6.out.mono ?_; rintro e w7 ⟨rfl, q7, hw7⟩; subst hw7; have HR7 := Lib.hid (HRT.out _ (below_dr HB6.out q7)))
      | (go_at_call 21; refine HR7.out.mono ?_; rintro e w8 ⟨rfl, q8, hw8⟩; subst hw8; have HB8 : Hid (∀ q, Below w.heap.size w (w6.drewN q)) := fun q => HBX.out.trans ((below_dr HB6.out q).mono hBX); have HAW := Lib.hid (fun q => awake_any (w6.drewN q) (HT.out.below (HB8.out q) (Nat.le_refl _))))
      | (go_at_call 17; refine (HAW.out _).mono ?_; rintro e w9 ⟨rfl, hB9⟩; have HB9 := Lib.hid ((HB8.out _).trans (hB9.mono (HB8.out (q7 + q8)).size)); clear hB9))
    go_ret
    exact ⟨rfl, HB9.out⟩
  · have HF := Lib.hid (from_bad p cp qs w1 c HC.out h0 (by have := HQL.out; omega) HP1.out)
    rw [HM.out] at HF
    go_upto_region 3 with (go_at_call 14; refine HF.out.mono ?_; rintro e w2 ⟨rfl, hB2⟩; have HB2 := Lib.hid (HB1.out.trans (hB2.mono HB1.out.size)); have HP2 := Lib.hid (HP1.out.below hB2 (Nat.le_refl _)); clear hB2)
    have HG := Lib.hid (boats_bad p cp qs w2 c HC.out h0 (by have := HQL.out; omega) HP2.out)
    rw [HM.out] at HG
    clear HF
    go_upto_region 4 with (go_at_call 15; refine HG.out.mono ?_; rintro e w3 ⟨rfl, hB3⟩; have HB3 := Lib.hid (HB2.out.trans (hB3.mono HB2.out.size)); have HP3 := Lib.hid (HP2.out.below hB3 (Nat.le_refl _)); clear hB3)
    clear HG
    have HR4 := Lib.hid (HR.out w3 HP3.out)
    have g0 : (c != 0) = true := by rw [bne_iff_ne]; exact h0
    have HAW := Lib.hid (fun q => awake_any (w3.drewN q) (HT.out.below (below_dr HB3.out q) (Nat.le_refl _)))
    clear HR
    go_wp2_with (first
      | (go_at_call 16; refine HR4.out.mono ?_; rintro e w4 ⟨rfl, q4, hw4⟩; subst hw4)
      | (go_at_call 17; refine (HAW.out _).mono ?_; rintro e w9 ⟨rfl, hB9⟩; have HB9 := Lib.hid (HB3.out.trans (((below_dr (Below.refl w3.heap.size _) q4).trans hB9).mono HB3.out.size)); clear hB9))
    go_ret
    exact ⟨rfl, HB9.out⟩
end Go.Proofs.YtgpijajgaclhfaaDoor
