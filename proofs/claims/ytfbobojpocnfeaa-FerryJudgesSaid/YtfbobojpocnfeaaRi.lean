/- The reference's IsStructure: a walk. -/
import Derived.Test.YtfbobojpocnfeaaL8
namespace Go.Proofs.Ytfbobojpocnfeaa
open Go.RowKit Go.Shelf

def Out5 (f : Nat) (xs : List Int) (k : Nat) : Prop := xs[k]?.getD 0 < 0 ∨ (f : Int) < xs[k]?.getD 0
theorem five_at {w : World} {b : Nat} {xs : List Int} (h : BoxN w b 40 (xs.map (Value.int .i64)).toArray) (k : Nat) (hk : k < xs.length) : w.cell? ⟨b, k, none⟩ = some (.int .i64 (xs[k]?.getD 0)) := by
  rw [h.cell]; simp [hk]
set_option maxHeartbeats 1000000 in
theorem ris_out (a : Option Addr) (m cap : Nat) (seats : Int) (x0 x1 x2 x3 x4 : Int) (w : World) (hm : m ≤ 10) (ho : ∃ k, k < 5 ∧ Out5 (full m) [x0, x1, x2, x3, x4] k) :
    Calls Try.prog 21 #[.slice a m cap, .int .i64 seats, .agg #[.int .i64 x0, .int .i64 x1, .int .i64 x2, .int .i64 x3, .int .i64 x4]] w fun e w' => e = .returned (.bool false) ∧ Below w.heap.size w w' := by
  have hB0 : Below w.heap.size w (w.alloc (.cells #[.int .i64 x0, .int .i64 x1, .int .i64 x2, .int .i64 x3, .int .i64 x4] 40)) := (Below.refl _ _).alloc (Nat.le_refl _) _
  have HB0 := Lib.hid hB0
  have z0 : BoxN (w.alloc (.cells #[.int .i64 x0, .int .i64 x1, .int .i64 x2, .int .i64 x3, .int .i64 x4] 40)) w.heap.size 40 (([x0, x1, x2, x3, x4] : List Int).map (Value.int .i64)).toArray := BoxN.new rfl
  have HC := Lib.hid (five_at z0)
  have KA := Lib.hid (fun W => all_any a m cap W (by omega))
  obtain ⟨xs, hxs⟩ : ∃ xs, Hid (xs = [x0, x1, x2, x3, x4]) := ⟨_, rfl⟩
  have HO := Lib.hid ho
  rw [← hxs.out] at HO HC
  have hlen : Hid (xs.length = 5) := by unfold Hid; rw [hxs.out]; rfl
  have hfl := (sm_full (n := m) (by omega)).lt
  clear ho z0 hB0
  go_enter Try.func21, Try.ntmps21
  go_wp2_with (go_at_call 23; refine (KA.out _).mono ?_; rintro e w1 ⟨rfl, hw⟩; subst hw; try dsimp only)
  generalize (w.alloc (.cells #[.int .i64 x0, .int .i64 x1, .int .i64 x2, .int .i64 x3, .int .i64 x4] 40)) = w0 at *
  go_loop [8] (fun s8 => ∃ k : Nat, k ≤ 5 ∧ s8 = .int .i64 k ∧ Hid (∀ j, j < k → ¬ Out5 (full m) xs j)) (fun s8 => 5 - (intOf s8).toNat)
  case atStart => exact ⟨0, by omega, rfl, fun j hj => by omega⟩
  case round =>
    obtain ⟨k, hk, rfl, hno⟩ := hrel
    by_cases hk5 : k < 5
    · have hc := HC.out k (by rw [hlen.out]; exact hk5)
      have hon : Hid (Out5 (full m) xs k ↔ xs[k]?.getD 0 < 0 ∨ (full m : Int) < xs[k]?.getD 0) := Iff.rfl
      generalize xs[k]?.getD 0 = z at hc hon
      have hki : ((k : Nat) : Int) < 5 := by omega
      have hk0 : (0 : Int) ≤ (k : Int) := by omega
      go_wp2
      · go_ret
        exact ⟨rfl, HB0.out⟩
      · refine ⟨⟨k + 1, by omega, by go_num, fun j hj => ?_⟩, by simp [intOf]; omega⟩
        by_cases e : j = k
        · subst e
          rw [hon.out]; omega
        · exact hno.out j (by omega)
      · go_ret
        exact ⟨rfl, HB0.out⟩
    · have : k = 5 := by omega
      subst this
      obtain ⟨j, hj, hoj⟩ := HO.out
      exact absurd hoj (hno.out j hj)
set_option maxRecDepth 100000 in
set_option maxHeartbeats 2000000 in
theorem ris_in (a : Option Addr) (cap : Nat) (g : List Nat) (seats : Int) (x1 x2 x3 y1 y2 : Nat) (w : World) (hl : g.length ≤ 10) (hsm : ∀ i : Nat, Sm (g[i]?.getD 0)) (hg : Sets w a g)
    (h1 : x1 ≤ full g.length) (h2 : x2 ≤ full g.length) (h3 : x3 ≤ full g.length) (h4 : y1 ≤ full g.length) (h5 : y2 ≤ full g.length) :
    Calls Try.prog 21 #[.slice a g.length cap, .int .i64 seats, .agg #[.int .i64 x1, .int .i64 x2, .int .i64 x3, .int .i64 y1, .int .i64 y2]] w fun e w' => e = .returned (.bool (structB g seats x1 x2 x3 y1 y2)) ∧ Below w.heap.size w w' := by
  have HS : Hid (structB g seats x1 x2 x3 y1 y2 = ((((x1 &&& x2) ||| (x1 &&& x3) ||| (x2 &&& x3)) == 0) && (quietB g (x1 ||| x2 ||| x3) && (decide (((size (ldiff (full g.length) (x1 ||| x2 ||| x3)) : Nat) : Int) ≤ seats) && ((y1 != 0) && ((y2 != 0) && ((ldiff (y1 ||| y2) (ldiff (full g.length) (x1 ||| x2 ||| x3)) == 0) && (quietB g (x1 ||| y1) && (quietB g (x2 ||| y2) && decide (size x3 ≤ size y1 + size y2)))))))))) := rfl
  have hfs : Sm (full g.length) := sm_full (by omega)
  have hB0 : Below w.heap.size w (w.alloc (.cells #[.int .i64 x1, .int .i64 x2, .int .i64 x3, .int .i64 y1, .int .i64 y2] 40)) := (Below.refl _ _).alloc (Nat.le_refl _) _
  have z0 : BoxN (w.alloc (.cells #[.int .i64 x1, .int .i64 x2, .int .i64 x3, .int .i64 y1, .int .i64 y2] 40)) w.heap.size 40 ((([x1, x2, x3, y1, y2] : List Nat).map fun (k : Nat) => (k : Int)).map (Value.int .i64)).toArray := BoxN.new rfl
  have HC := Lib.hid (five_at z0)
  have hgW := hg.below hB0
  have s1 : Sm x1 := Nat.lt_of_le_of_lt h1 hfs
  have s2 : Sm x2 := Nat.lt_of_le_of_lt h2 hfs
  have s3 : Sm x3 := Nat.lt_of_le_of_lt h3 hfs
  have s4 : Sm y1 := Nat.lt_of_le_of_lt h4 hfs
  have s5 : Sm y2 := Nat.lt_of_le_of_lt h5 hfs
  obtain ⟨l0, l1, l2, l3, l4, _⟩ := res5 (BoxN.new (W := w) (B := w.heap.size) (t := 40) (vs := #[.int .i64 x1, .int .i64 x2, .int .i64 x3, .int .i64 y1, .int .i64 y2]) rfl)
  have HB0 := Lib.hid hB0
  clear hB0 z0 hg
  generalize hW0 : (w.alloc (.cells #[.int .i64 x1, .int .i64 x2, .int .i64 x3, .int .i64 y1, .int .i64 y2] 40)) = w0 at *
  have HW0 := Lib.hid hW0
  clear hW0
  have KQ : ∀ (s : Nat) (q : Bool), Sm s → Hid (q = quietB g s) → Hid (∀ nq, Calls Try.prog 27 #[.slice a g.length cap, .int .i64 (s : Int)] (w0.drewN nq) fun e w' => e = .returned (.bool q) ∧ w' = w0.drewN nq) := fun s q hs hq nq => by
    rw [hq.out]; exact quiet_any a cap g s _ (by omega) hs hsm hgW
  have KC : ∀ (s z : Nat), Sm s → Hid (z = size s) → Hid (∀ W, Calls Try.prog 25 #[.int .i64 (s : Int)] W fun e w' => e = .returned (.int .i64 (z : Int)) ∧ w' = W) := fun s z hs hz W => by
    rw [hz.out]; exact size_any s W hs
  have KA := Lib.hid (fun W => all_any a g.length cap W (by omega))
  have t1 : Sm (x1 &&& x2) := sm_and_l _ s1
  have t2 : Sm (x1 &&& x3) := sm_and_l _ s1
  have t3 : Sm (x2 &&& x3) := sm_and_l _ s2
  have t5 : Sm (x1 ||| x2) := sm_or s1 s2
  have t6 : Sm (x1 ||| x2 ||| x3) := sm_or t5 s3
  have t7 : Sm (y1 ||| y2) := sm_or s4 s5
  have t8 : Sm (ldiff (full g.length) (x1 ||| x2 ||| x3)) := sm_ldiff _ hfs
  obtain ⟨q0, hq0⟩ : ∃ q, Hid (q = quietB g (x1 ||| x2 ||| x3)) := ⟨_, rfl⟩
  obtain ⟨q1, hq1⟩ : ∃ q, Hid (q = quietB g (x1 ||| y1)) := ⟨_, rfl⟩
  obtain ⟨q2, hq2⟩ : ∃ q, Hid (q = quietB g (x2 ||| y2)) := ⟨_, rfl⟩
  obtain ⟨zy, hzy⟩ : ∃ z, Hid (z = size (ldiff (full g.length) (x1 ||| x2 ||| x3))) := ⟨_, rfl⟩
  obtain ⟨z1, hz1⟩ : ∃ z, Hid (z = size y1) := ⟨_, rfl⟩
  obtain ⟨z2, hz2⟩ : ∃ z, Hid (z = size y2) := ⟨_, rfl⟩
  obtain ⟨z3, hz3⟩ : ∃ z, Hid (z = size x3) := ⟨_, rfl⟩
  have bz1 : z1 ≤ 64 := by rw [hz1.out]; exact size_le _
  have bz2 : z2 ≤ 64 := by rw [hz2.out]; exact size_le _
  have HS2 := HS.out
  rw [← hq0.out, ← hq1.out, ← hq2.out, ← hzy.out, ← hz1.out, ← hz2.out, ← hz3.out] at HS2
  clear HS
  have HS := Lib.hid HS2
  clear HS2
  have Q0 := KQ _ _ t6 hq0
  have Q1 := KQ _ _ (sm_or s1 s4) hq1
  have Q2 := KQ _ _ (sm_or s2 s5) hq2
  have C0 := KC _ _ t8 hzy
  have C1 := KC _ _ s4 hz1
  have C2 := KC _ _ s5 hz2
  have C3 := KC _ _ s3 hz3
  clear hsm hgW KQ KC
  have hls : Hid (∀ k, k < 5 → ((([x1, x2, x3, y1, y2] : List Nat).map fun (k : Nat) => (k : Int))[k]?.getD 0 : Int) ≥ 0 ∧ ((([x1, x2, x3, y1, y2] : List Nat).map fun (k : Nat) => (k : Int))[k]?.getD 0 : Int) ≤ full g.length) := fun k hk => by
    rcases (show k = 0 ∨ k = 1 ∨ k = 2 ∨ k = 3 ∨ k = 4 by omega) with rfl | rfl | rfl | rfl | rfl <;> simp <;> omega
  generalize structB g seats x1 x2 x3 y1 y2 = R at *
  generalize g.length = m at *
  have hfl := hfs.lt
  obtain ⟨xs, hxs⟩ : ∃ xs, Hid (xs = (([x1, x2, x3, y1, y2] : List Nat).map fun (k : Nat) => (k : Int))) := ⟨_, rfl⟩
  rw [← hxs.out] at HC hls
  have hlen : Hid (xs.length = 5) := by unfold Hid; rw [hxs.out]; rfl
  clear h1 h2 h3 h4 h5
  go_enter Try.func21, Try.ntmps21
  go_upto_region 2 with (go_at_call 23; refine (KA.out _).mono ?_; rintro e w1 ⟨rfl, hw⟩; subst hw; try dsimp only)
  rw [HW0.out]
  go_wp2
  clear HW0
  go_loop [8] (fun s8 => ∃ k : Nat, k ≤ 5 ∧ s8 = .int .i64 k) (fun s8 => 5 - (intOf s8).toNat)
  case atStart => exact ⟨0, by omega, rfl⟩
  case round =>
    obtain ⟨k, hk, rfl⟩ := hrel
    by_cases hk5 : k < 5
    · have hc := HC.out k (by rw [hlen.out]; exact hk5)
      have hon := hls.out k hk5
      generalize xs[k]?.getD 0 = z at hc hon
      obtain ⟨hz1, hz2⟩ := hon
      have hki : ((k : Nat) : Int) < 5 := by omega
      have hk0 : (0 : Int) ≤ (k : Int) := by omega
      clear l0 l1 l2 l3 l4
      go_wp2
      exact ⟨⟨k + 1, by omega, by go_num⟩, by simp [intOf]; omega⟩
    · have : k = 5 := by omega
      subst this
      clear HC hls
      have Q00 := Lib.hid (Q0.out 0)
      by_cases hov : ((x1 &&& x2) ||| (x1 &&& x3) ||| (x2 &&& x3)) = 0
      · have e3 : (x1 &&& x2 = 0 ∧ x1 &&& x3 = 0) ∧ x2 &&& x3 = 0 := by simpa using hov
        have b1 : (((x1 &&& x2 : Nat) : Int) != 0) = false := by rw [e3.1.1]; rfl
        have b2 : (((x1 &&& x3 : Nat) : Int) != 0) = false := by rw [e3.1.2]; rfl
        have b3 : (((x2 &&& x3 : Nat) : Int) != 0) = false := by rw [e3.2]; rfl
        have HOV := Lib.hid hov
        clear e3 hov
        go_upto_region 11 with (fail)
        try simp only [List.append]
        clear b1 b2 b3
        have q00 : w0.drewN 0 = w0 := rfl
        rw [q00] at Q00
        clear q00
        go_upto_region 13 with (first
          | (go_at_call 27; refine (Q00.out).mono ?_; rintro e w4 ⟨rfl, hw4⟩; subst hw4; try dsimp only)
          | (go_at_call 25; refine (C0.out _).mono ?_; rintro e w4 ⟨rfl, hw4⟩; subst hw4; try dsimp only))
        all_goals first
          | (go_ret
             refine ⟨ret_bool ?_, HB0.out⟩
             have hov := HOV.out
             have hR := HS.out
             clear HS HB0 Q00 Q0 Q1 Q2 C0 C1 C2 C3 HOV KA hq0 hq1 hq2 hzy hz1 hz2 hz3 hxs hlen
             first
             | (simp_all; done)
             | (simp_all; omega))
          | skip
        have hy1 : y1 ≠ 0 := by assumption
        have hy2 : y2 ≠ 0 := by assumption
        have hall : ((((zy : Int) ≤ seats ∧ (((y1 : Nat) : Int) == 0) = false) ∧ (((y2 : Nat) : Int) == 0) = false) ∧ (((ldiff (y1 ||| y2) (ldiff (full m) (x1 ||| x2 ||| x3)) : Nat) : Int) != 0) = false) := by assumption
        have hld : ldiff (y1 ||| y2) (ldiff (full m) (x1 ||| x2 ||| x3)) = 0 := by
          have := hall.2
          simp at this
          omega
        have HF : Hid (R = (q1 && (q2 && decide (z3 ≤ z1 + z2)))) := by
          unfold Hid
          rw [HS.out, HOV.out, hld, show (q0 : Bool) = true from by assumption, decide_eq_true hall.1.1.1, bne_iff_ne.2 hy1, bne_iff_ne.2 hy2]
          rfl
        have hs3 : ((z3 : Int) ≤ (z1 : Int) + (z2 : Int)) = (z3 ≤ z1 + z2) := propext (by omega)
        have HS3 := Lib.hid hs3
        clear hall hld hy1 hy2 hs3 HS HOV
        cases q1
        · go_quiet ((first
            | (go_at_call 27; with_reducible exact Calls.quiet_of_same (Q1.out _))
            | (go_at_call 27; with_reducible exact Calls.quiet_of_same (Q2.out _))
            | (go_at_call 25; with_reducible exact Calls.quiet_of_same (C1.out _))
            | (go_at_call 25; with_reducible exact Calls.quiet_of_same (C2.out _))
            | (go_at_call 25; with_reducible exact Calls.quiet_of_same (C3.out _))))
          go_wp2
          go_ret
          exact ⟨ret_bool (by rw [HF.out]; rfl), below_dr HB0.out nq⟩
        · cases q2
          · go_quiet ((first
            | (go_at_call 27; with_reducible exact Calls.quiet_of_same (Q1.out _))
            | (go_at_call 27; with_reducible exact Calls.quiet_of_same (Q2.out _))
            | (go_at_call 25; with_reducible exact Calls.quiet_of_same (C1.out _))
            | (go_at_call 25; with_reducible exact Calls.quiet_of_same (C2.out _))
            | (go_at_call 25; with_reducible exact Calls.quiet_of_same (C3.out _))))
            go_wp2
            go_ret
            exact ⟨ret_bool (by rw [HF.out]; rfl), below_dr HB0.out nq⟩
          · by_cases h3 : z3 ≤ z1 + z2
            · have hd : decide ((z3 : Int) ≤ (z1 : Int) + (z2 : Int)) = true := decide_eq_true (by omega)
              go_quiet ((first
            | (go_at_call 27; with_reducible exact Calls.quiet_of_same (Q1.out _))
            | (go_at_call 27; with_reducible exact Calls.quiet_of_same (Q2.out _))
            | (go_at_call 25; with_reducible exact Calls.quiet_of_same (C1.out _))
            | (go_at_call 25; with_reducible exact Calls.quiet_of_same (C2.out _))
            | (go_at_call 25; with_reducible exact Calls.quiet_of_same (C3.out _))))
              go_wp2
              go_ret
              exact ⟨ret_bool (by rw [HF.out, decide_eq_true h3]; rfl), below_dr HB0.out nq⟩
            · have hd : decide ((z3 : Int) ≤ (z1 : Int) + (z2 : Int)) = false := decide_eq_false (by omega)
              go_quiet ((first
            | (go_at_call 27; with_reducible exact Calls.quiet_of_same (Q1.out _))
            | (go_at_call 27; with_reducible exact Calls.quiet_of_same (Q2.out _))
            | (go_at_call 25; with_reducible exact Calls.quiet_of_same (C1.out _))
            | (go_at_call 25; with_reducible exact Calls.quiet_of_same (C2.out _))
            | (go_at_call 25; with_reducible exact Calls.quiet_of_same (C3.out _))))
              go_wp2
              go_ret
              exact ⟨ret_bool (by rw [HF.out, decide_eq_false h3]; rfl), below_dr HB0.out nq⟩
      · go_wp2_with fail
        all_goals first
          | (go_ret
             exact ⟨ret_bool (by rw [HS.out, beq_eq_false_iff_ne.2 hov]; rfl), HB0.out⟩)
          | (exfalso
             have h3 : ((x2 &&& x3 : Nat) : Int) = 0 := by simpa using (by assumption : ((((x2 &&& x3 : Nat) : Int)) != 0) = false)
             have h4 : x2 &&& x3 = 0 := by omega
             have h5 : x1 &&& x2 = 0 := by assumption
             have h6 : x1 &&& x3 = 0 := by assumption
             exact hov (by rw [h4, h5, h6]; rfl))
end Go.Proofs.Ytfbobojpocnfeaa
