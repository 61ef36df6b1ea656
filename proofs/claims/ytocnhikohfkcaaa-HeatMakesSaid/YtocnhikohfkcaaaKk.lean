/- HeatMakes: walk. -/
import Derived.Test.YtocnhikohfkcaaaG323
set_option linter.unusedVariables false
set_option linter.unusedSimpArgs false
namespace Go.Proofs.Ytocnhikohfkcaaa
open Go.RowKit Go.Shelf
attribute [local go_sem] Oper.semAt_some

set_option maxRecDepth 100000 in
set_option maxHeartbeats 8000000 in
theorem law3 (z : Int) (W : World) : Calls Try.prog 3 #[.int .i64 z] W fun e W' => e = .returned (.bool true) ∧ Below W.heap.size W W' := by
  have HAW : Hid (∀ w : World, Calls Try.prog 17 #[] w fun e w' => e = .returned (.bool true) ∧ Below w.heap.size w w') := awake_any
  go_enter Try.func3, Try.ntmps3
  go_upto_region 2 with (fail)
  go_loopw [0, 3] (fun s0 s3 wr => ∃ (z : Int) (i : Nat), i ≤ 2 ∧ s0 = .int .i64 z ∧ s3 = .int .i64 (i : Int) ∧ Hid (Below W.heap.size W wr)) (fun _ s3 _ => 2 - (intOf s3).toNat)
  case atStart => exact ⟨z, 0, by omega, rfl, rfl, Below.refl _ _⟩
  case round =>
    obtain ⟨z, i, hi, rfl, rfl, hB⟩ := hrel
    have hwr : W.heap.size ≤ wr.heap.size := hB.out.size
    by_cases hi2 : i < 2
    · have g1 : (i : Int) < 2 := by omega
      have HEV := Lib.hid (fun w => REven_any z w)
      by_cases hz : EvP z
      · rw [decide_eq_true hz] at HEV
        obtain ⟨n, rfl⟩ : ∃ n : Nat, z = (n : Int) := ⟨z.toNat, by have := hz.1; omega⟩
        have h2 : 2 ≤ n := by have := hz.1; omega
        have h16 : n ≤ 16 := by have := hz.2.1; omega
        have hev : n % 2 = 0 := by have := hz.2.2; simpa using this
        obtain ⟨n1, hn1⟩ : ∃ n1, n - 1 = n1 := ⟨_, rfl⟩
        have HC := Lib.hid (Circle_src n n1 wr h2 h16 hev hn1)
        clear hz
        by_cases hbal : n = 4 ∨ n = 8 ∨ n = 16
        · have HBL := Lib.hid (fun w => Balanced_src n n1 w hbal hn1)
          have HSY := Lib.hid (bal_sch hbal)
          have hcase : ((n : Int) != 4) = false ∨ (((n : Int) != 4) = true ∧ ((n : Int) != 8) = false) ∨ (((n : Int) != 4) = true ∧ ((n : Int) != 8) = true ∧ ((n : Int) != 16) = false) := by simp; omega
          rcases hcase with q4 | ⟨q4, q8⟩ | ⟨q4, q8, q16⟩
          all_goals
            (go_wp2_with (first
              | (go_at_call 10; refine HC.out.mono ?_; rintro e w1 ⟨⟨p1, c1, rfl, hs1⟩, hB1⟩; have HS1 := Lib.hid hs1; have HBL1 := Lib.hid (HBL.out w1); have HB1 : Hid (Below W.heap.size W w1) := hB.out.trans (hB1.mono hwr); have hw1 : W.heap.size ≤ w1.heap.size := HB1.out.size; clear hs1 hB1)
              | (go_at_call 11; refine HBL1.out.mono ?_; rintro e w2 ⟨⟨p2, c2, rfl, hs2⟩, hB2⟩; have HS2 := Lib.hid hs2; have HS12 := Lib.hid (HS1.out.below hB2 (Nat.le_refl _)); have HE := Lib.hid (HEV.out w2); have HRC := Lib.hid (RCircle_src n n1 w2 h2 h16 hev hn1); have HB2 : Hid (Below W.heap.size W w2) := HB1.out.trans (hB2.mono hw1); have hw2 : W.heap.size ≤ w2.heap.size := HB2.out.size; clear hs2 hB2)
              | (go_at_call 12; refine HE.out.mono ?_; rintro e w9 ⟨rfl, hw9⟩; replace hw9 := hw9.symm; subst hw9; try dsimp only)
              | (go_at_call 14; refine HRC.out.mono ?_; rintro e w3 ⟨⟨p3, c3, rfl, hs3⟩, hB3⟩; have HSA := Lib.hid (same_yes n n1 p1 p3 c1 c3 (cir n) w3 h16 hn1 (HS12.out.below hB3 (Nat.le_refl _)) hs3); have HS23 := Lib.hid (HS2.out.below hB3 (Nat.le_refl _)); have HB3 : Hid (Below W.heap.size W w3) := HB2.out.trans (hB3.mono hw2); have hw3 : W.heap.size ≤ w3.heap.size := HB3.out.size; clear hs3 hB3)
              | (go_at_call 13; refine HSA.out.mono ?_; rintro e w4 ⟨rfl, hB4⟩; have HS24 := Lib.hid (HS23.out.below hB4 (Nat.le_refl _)); have HRK := Lib.hid (RCheck_yes n n1 p2 c2 (balM n) w4 h2 h16 hev hn1 HS24.out HSY.out); have HB4 : Hid (Below W.heap.size W w4) := HB3.out.trans (hB4.mono hw3); have hw4 : W.heap.size ≤ w4.heap.size := HB4.out.size; clear hB4)
              | (go_at_call 15; refine HRK.out.mono ?_; rintro e w5 ⟨rfl, hB5⟩; have HRB := Lib.hid (RBal_src n n1 p2 c2 w5 hbal hn1 (HS24.out.below hB5 (Nat.le_refl _))); have HB5 : Hid (Below W.heap.size W w5) := HB4.out.trans (hB5.mono hw4); have hw5 : W.heap.size ≤ w5.heap.size := HB5.out.size; clear hB5)
              | (go_at_call 16; refine HRB.out.mono ?_; rintro e w6 ⟨rfl, hB6⟩; have HB6 : Hid (Below W.heap.size W w6) := HB5.out.trans (hB6.mono hw5); clear hB6))
             exact ⟨⟨_, i + 1, by omega, rfl, int_eq (by omega), HB6⟩, by simp [intOf]; omega⟩)
        · have HBL := Lib.hid (fun w => Balanced_none n w h2 h16 hev ⟨by omega, by omega, by omega⟩)
          have q4 : ((n : Int) != 4) = true := by simp; omega
          have q8 : ((n : Int) != 8) = true := by simp; omega
          have q16 : ((n : Int) != 16) = true := by simp; omega
          clear hbal
          go_wp2_with (first
            | (go_at_call 10; refine HC.out.mono ?_; rintro e w1 ⟨⟨p1, c1, rfl, hs1⟩, hB1⟩; have HS1 := Lib.hid hs1; have HBL1 := Lib.hid (HBL.out w1); have HB1 : Hid (Below W.heap.size W w1) := hB.out.trans (hB1.mono hwr); have hw1 : W.heap.size ≤ w1.heap.size := HB1.out.size; clear hs1 hB1)
            | (go_at_call 11; refine HBL1.out.mono ?_; rintro e w2 ⟨rfl, hB2⟩; have HS12 := Lib.hid (HS1.out.below hB2 (Nat.le_refl _)); have HE := Lib.hid (HEV.out w2); have HRC := Lib.hid (RCircle_src n n1 w2 h2 h16 hev hn1); have HB2 : Hid (Below W.heap.size W w2) := HB1.out.trans (hB2.mono hw1); have hw2 : W.heap.size ≤ w2.heap.size := HB2.out.size; clear hB2)
            | (go_at_call 12; refine HE.out.mono ?_; rintro e w9 ⟨rfl, hw9⟩; replace hw9 := hw9.symm; subst hw9; try dsimp only)
            | (go_at_call 14; refine HRC.out.mono ?_; rintro e w3 ⟨⟨p3, c3, rfl, hs3⟩, hB3⟩; have HSA := Lib.hid (same_yes n n1 p1 p3 c1 c3 (cir n) w3 h16 hn1 (HS12.out.below hB3 (Nat.le_refl _)) hs3); have HB3 : Hid (Below W.heap.size W w3) := HB2.out.trans (hB3.mono hw2); have hw3 : W.heap.size ≤ w3.heap.size := HB3.out.size; clear hs3 hB3)
            | (go_at_call 13; refine HSA.out.mono ?_; rintro e w4 ⟨rfl, hB4⟩; have HB4 : Hid (Below W.heap.size W w4) := HB3.out.trans (hB4.mono hw3); have hw4 : W.heap.size ≤ w4.heap.size := HB4.out.size; clear hB4))
          exact ⟨⟨_, i + 1, by omega, rfl, int_eq (by omega), HB4⟩, by simp [intOf]; omega⟩
      · rw [decide_eq_false hz] at HEV
        have HC := Lib.hid (Circle_err z wr hz)
        have HBL := Lib.hid (Balanced_err z wr hz)
        clear hz
        go_wp2_with (first
          | (go_at_call 10; refine HC.out.mono ?_; rintro e w9 ⟨rfl, hw9⟩; replace hw9 := hw9.symm; subst hw9; try dsimp only)
          | (go_at_call 11; refine HBL.out.mono ?_; rintro e w2 ⟨rfl, hB2⟩; have HE := Lib.hid (HEV.out w2); have HB2 : Hid (Below W.heap.size W w2) := hB.out.trans (hB2.mono hwr); clear hB2)
          | (go_at_call 12; refine HE.out.mono ?_; rintro e w9 ⟨rfl, hw9⟩; replace hw9 := hw9.symm; subst hw9; try dsimp only))
        exact ⟨⟨_, i + 1, by omega, rfl, int_eq (by omega), HB2⟩, by simp [intOf]; omega⟩
    · have g1 : ¬ (i : Int) < 2 := by omega
      obtain rfl : i = 2 := by omega
      have HA := Lib.hid (HAW.out wr)
      go_wp2_with (go_at_call 17; refine HA.out.mono ?_; rintro e w1 ⟨rfl, hB1⟩; have HB1 : Hid (Below W.heap.size W w1) := hB.out.trans (hB1.mono hwr); clear hB1)
      go_ret
      exact ⟨rfl, HB1.out⟩
end Go.Proofs.Ytocnhikohfkcaaa
