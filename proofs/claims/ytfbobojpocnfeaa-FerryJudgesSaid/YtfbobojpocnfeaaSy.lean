/- The program's IsStructure. -/
import Derived.Test.YtfbobojpocnfeaaSx
import Derived.Test.YtfbobojpocnfeaaSh
namespace Go.Proofs.Ytfbobojpocnfeaa
open Go.RowKit Go.Shelf

theorem min_any (b n c : Nat) (zs : List Int) (w : World) (hn : 0 < n) (hz : n = zs.length) (hbig : n ≤ 9223372036854775807) (hc : ∀ j, j < zs.length → w.cell? ⟨b, 0 + j, none⟩ = some (.int .i64 (zs.getD j 0))) :
    Calls Try.prog 40 #[.slice (some ⟨b, 0, none⟩) n c] w fun e w' => e = .returned (.int .i64 (Lib.minOf (zs.take n))) ∧ w' = w :=
  show Calls Try.prog 40 _ w _ from Any.slices_Min_int Try.lays114 b 0 n c zs w hn (Nat.le_of_eq hz) hbig hc
theorem max_any (b n c : Nat) (zs : List Int) (w : World) (hn : 0 < n) (hz : n = zs.length) (hbig : n ≤ 9223372036854775807) (hc : ∀ j, j < zs.length → w.cell? ⟨b, 0 + j, none⟩ = some (.int .i64 (zs.getD j 0))) :
    Calls Try.prog 41 #[.slice (some ⟨b, 0, none⟩) n c] w fun e w' => e = .returned (.int .i64 (Lib.maxOf (zs.take n))) ∧ w' = w :=
  show Calls Try.prog 41 _ w _ from Any.slices_Max_int Try.lays113 b 0 n c zs w hn (Nat.le_of_eq hz) hbig hc
theorem min5 (x0 x1 x2 x3 x4 : Int) : ∃ m, Hid (m = Lib.minOf (([x0, x1, x2, x3, x4] : List Int).take 5)) ∧ m ≤ x0 ∧ m ≤ x1 ∧ m ≤ x2 ∧ m ≤ x3 ∧ m ≤ x4 ∧ (m = x0 ∨ m = x1 ∨ m = x2 ∨ m = x3 ∨ m = x4) :=
  ⟨_, rfl, by simp [Lib.minOf]; omega⟩
theorem max5 (x0 x1 x2 x3 x4 : Int) : ∃ m, Hid (m = Lib.maxOf (([x0, x1, x2, x3, x4] : List Int).take 5)) ∧ x0 ≤ m ∧ x1 ≤ m ∧ x2 ≤ m ∧ x3 ≤ m ∧ x4 ≤ m ∧ (m = x0 ∨ m = x1 ∨ m = x2 ∨ m = x3 ∨ m = x4) :=
  ⟨_, rfl, by simp [Lib.maxOf]; omega⟩
theorem five_cells {w : World} {b : Nat} {x0 x1 x2 x3 x4 : Int} (h : BoxN w b 40 #[.int .i64 x0, .int .i64 x1, .int .i64 x2, .int .i64 x3, .int .i64 x4]) :
    ∀ j, j < ([x0, x1, x2, x3, x4] : List Int).length → w.cell? ⟨b, 0 + j, none⟩ = some (.int .i64 (([x0, x1, x2, x3, x4] : List Int).getD j 0)) := fun j hj => by
  rw [Nat.zero_add, h.cell]
  have : j < 5 := hj
  rcases (show j = 0 ∨ j = 1 ∨ j = 2 ∨ j = 3 ∨ j = 4 by omega) with rfl | rfl | rfl | rfl | rfl <;> rfl
theorem isStructure_out (n : Nat) (ps : List (Int × Int)) (a : Option Addr) (cap : Nat) (w : World) (h : Good n ps a w) (seats : Int) (x0 x1 x2 x3 x4 : Int)
    (hs : seats < 1 ∨ (x0 < 0 ∨ x1 < 0 ∨ x2 < 0 ∨ x3 < 0 ∨ x4 < 0) ∨ ((full n : Int) < x0 ∨ (full n : Int) < x1 ∨ (full n : Int) < x2 ∨ (full n : Int) < x3 ∨ (full n : Int) < x4)) :
    Calls Try.prog 22 #[.int .i64 n, .slice a ps.length cap, .int .i64 seats, .agg #[.int .i64 x0, .int .i64 x1, .int .i64 x2, .int .i64 x3, .int .i64 x4]] w fun e w' => e = .returned (.bool false) ∧ Below w.heap.size w w' := by
  have HO := Lib.hid (fun w' (hB : Below w.heap.size w w') => (show Good n ps a w' from ⟨h.hl, h.hg.below hB (Nat.le_refl _), h.n1, h.n2, h.ok⟩).open cap)
  have hl : (ofE n ps).length = n := ofE_length n ps
  have hsm := ofE_sm h.n2 h.ok
  have hn2 := h.n2
  clear h
  generalize ofE n ps = g at *
  obtain ⟨m, hm, m0, m1, m2, m3, m4, m5⟩ := min5 x0 x1 x2 x3 x4
  obtain ⟨M, hM, M0, M1, M2, M3, M4, M5⟩ := max5 x0 x1 x2 x3 x4
  have K : Hid (seats < 1 ∨ m < 0 ∨ (full n : Int) < M) := by unfold Hid; omega
  clear m0 m1 m2 m3 m4 m5 M0 M1 M2 M3 M4 M5 hs
  have hB0 : Below w.heap.size w (w.alloc (.cells #[.int .i64 x0, .int .i64 x1, .int .i64 x2, .int .i64 x3, .int .i64 x4] 40)) := (Below.refl _ _).alloc (Nat.le_refl _) _
  have z0 : BoxN (w.alloc (.cells #[.int .i64 x0, .int .i64 x1, .int .i64 x2, .int .i64 x3, .int .i64 x4] 40)) w.heap.size 40 #[.int .i64 x0, .int .i64 x1, .int .i64 x2, .int .i64 x3, .int .i64 x4] := BoxN.new rfl
  go_enter Try.func22, Try.ntmps22
  go_wp2_with (first
    | (go_at_call 33; refine (HO.out _ hB0).mono ?_; rintro e w1 ⟨B, rfl, hBB, hcr, hB1⟩; have hcn := hcr.n; rw [hl] at hcn)
    | (go_at_call 40; refine (min_any _ 5 5 [x0, x1, x2, x3, x4] _ (by decide) rfl (by decide) (five_cells (z0.below hB1 (by simp)))).mono ?_; rintro e w3 ⟨rfl, rfl⟩; rw [← hm.out])
    | (go_at_call 41; refine (max_any _ 5 5 [x0, x1, x2, x3, x4] _ (by decide) rfl (by decide) (five_cells (z0.below hB1 (by simp)))).mono ?_; rintro e w3 ⟨rfl, rfl⟩; rw [← hM.out])
    | (go_at_call 37; refine (call_any B n _ (by omega) hcn).mono ?_; rintro e w2 ⟨rfl, rfl⟩))
  all_goals first
    | (go_ret; exact ⟨rfl, hB0.trans (hB1.mono (by simp))⟩)
    | (exfalso; have := K.out; omega)
theorem bool_and {a b : Bool} (h : a = true) : (a && b) = b := by rw [h]; rfl
set_option maxRecDepth 100000 in
set_option maxHeartbeats 1000000 in
theorem isStructure_in (n : Nat) (ps : List (Int × Int)) (a : Option Addr) (cap : Nat) (w : World) (h : Good n ps a w) (seats : Int) (hs : 1 ≤ seats) (x1 x2 x3 y1 y2 : Nat)
    (h1 : x1 ≤ full n) (h2 : x2 ≤ full n) (h3 : x3 ≤ full n) (h4 : y1 ≤ full n) (h5 : y2 ≤ full n) :
    Calls Try.prog 22 #[.int .i64 n, .slice a ps.length cap, .int .i64 seats, .agg #[.int .i64 x1, .int .i64 x2, .int .i64 x3, .int .i64 y1, .int .i64 y2]] w fun e w' => e = .returned (.bool (structB (ofE n ps) seats x1 x2 x3 y1 y2)) ∧ Below w.heap.size w w' := by
  have HO := Lib.hid (fun w' (hB : Below w.heap.size w w') => (show Good n ps a w' from ⟨h.hl, h.hg.below hB (Nat.le_refl _), h.n1, h.n2, h.ok⟩).open cap)
  have hl : (ofE n ps).length = n := ofE_length n ps
  have hsm := ofE_sm h.n2 h.ok
  have hn2 := h.n2
  clear h
  generalize ofE n ps = g at *
  have HS : Hid (structB g seats x1 x2 x3 y1 y2 = ((((x1 &&& x2) ||| (x1 &&& x3) ||| (x2 &&& x3)) == 0) && (quietB g (x1 ||| x2 ||| x3) && (decide (((size (ldiff (full g.length) (x1 ||| x2 ||| x3)) : Nat) : Int) ≤ seats) && ((y1 != 0) && ((y2 != 0) && ((ldiff (y1 ||| y2) (ldiff (full g.length) (x1 ||| x2 ||| x3)) == 0) && (quietB g (x1 ||| y1) && (quietB g (x2 ||| y2) && decide (size x3 ≤ size y1 + size y2)))))))))) := rfl
  have hfs : Sm (full n) := sm_full (by omega)
  have s1 : Sm x1 := Nat.lt_of_le_of_lt h1 hfs
  have s2 : Sm x2 := Nat.lt_of_le_of_lt h2 hfs
  have s3 : Sm x3 := Nat.lt_of_le_of_lt h3 hfs
  have s4 : Sm y1 := Nat.lt_of_le_of_lt h4 hfs
  have s5 : Sm y2 := Nat.lt_of_le_of_lt h5 hfs
  obtain ⟨m, hm, m0, m1, m2, m3, m4, m5⟩ := min5 (x1 : Int) x2 x3 y1 y2
  obtain ⟨M, hM, M0, M1, M2, M3, M4, M5⟩ := max5 (x1 : Int) x2 x3 y1 y2
  have Km : 0 ≤ m := by omega
  have KM : M ≤ (full n : Int) := by omega
  rw [hl] at HS
  obtain ⟨q0, hq0⟩ : ∃ q, Hid (q = quietB g (x1 ||| x2 ||| x3)) := ⟨_, rfl⟩
  obtain ⟨q1, hq1⟩ : ∃ q, Hid (q = quietB g (x1 ||| y1)) := ⟨_, rfl⟩
  obtain ⟨q2, hq2⟩ : ∃ q, Hid (q = quietB g (x2 ||| y2)) := ⟨_, rfl⟩
  obtain ⟨zy, hzy⟩ : ∃ z, Hid (z = size (ldiff (full n) (x1 ||| x2 ||| x3))) := ⟨_, rfl⟩
  obtain ⟨z1, hz1⟩ : ∃ z, Hid (z = size y1) := ⟨_, rfl⟩
  obtain ⟨z2, hz2⟩ : ∃ z, Hid (z = size y2) := ⟨_, rfl⟩
  obtain ⟨z3, hz3⟩ : ∃ z, Hid (z = size x3) := ⟨_, rfl⟩
  have bz1 : z1 ≤ 64 := by rw [hz1.out]; exact size_le _
  have bz2 : z2 ≤ 64 := by rw [hz2.out]; exact size_le _
  have HS2 := HS.out
  rw [← hq0.out, ← hq1.out, ← hq2.out, ← hzy.out, ← hz1.out, ← hz2.out, ← hz3.out] at HS2
  clear HS m0 m1 m2 m3 m4 m5 M0 M1 M2 M3 M4 M5 h1 h2 h3 h4 h5
  have HS := Lib.hid HS2
  clear HS2
  generalize structB g seats x1 x2 x3 y1 y2 = R at *
  have hB0 : Below w.heap.size w (w.alloc (.cells #[.int .i64 x1, .int .i64 x2, .int .i64 x3, .int .i64 y1, .int .i64 y2] 40)) := (Below.refl _ _).alloc (Nat.le_refl _) _
  have z0 : BoxN (w.alloc (.cells #[.int .i64 x1, .int .i64 x2, .int .i64 x3, .int .i64 y1, .int .i64 y2] 40)) w.heap.size 40 #[.int .i64 x1, .int .i64 x2, .int .i64 x3, .int .i64 y1, .int .i64 y2] := BoxN.new rfl
  go_enter Try.func22, Try.ntmps22
  go_wp2_with (first
    | (go_at_call 33; refine (HO.out _ hB0).mono ?_; rintro e w1 ⟨B, rfl, hBB, hcr, hB1⟩; have hcn := hcr.n; rw [hl] at hcn)
    | (go_at_call 40; refine (min_any _ 5 5 [(x1 : Int), x2, x3, y1, y2] _ (by decide) rfl (by decide) (five_cells (z0.below hB1 (by simp)))).mono ?_; rintro e w3 ⟨rfl, rfl⟩; rw [← hm.out])
    | (go_at_call 41; refine (max_any _ 5 5 [(x1 : Int), x2, x3, y1, y2] _ (by decide) rfl (by decide) (five_cells (z0.below hB1 (by simp)))).mono ?_; rintro e w3 ⟨rfl, rfl⟩; rw [← hM.out])
    | (go_at_call 37; refine (call_any B n _ (by omega) hcn).mono ?_; rintro e w2 ⟨rfl, rfl⟩))
  obtain ⟨l0, l1, l2, l3, l4, _⟩ := res5 (z0.below hB1 (by simp))
  have HB := Lib.hid (hB0.trans (hB1.mono (by simp)))
  have HCN := Lib.hid hcn
  have HCR := Lib.hid hcr
  clear hB0 z0 hcn
  go_quiet (fail)
  have KQ : ∀ (s : Nat) (q : Bool), Sm s → Hid (q = quietB g s) → Hid (∀ W, W = w2.drewN nq → Calls Try.prog 38 #[.pointer (some ⟨B, 0, none⟩), .int .i64 (s : Int)] W fun e w' => e = .returned (.bool q) ∧ w' = W) := fun s q hs hq W hW => by
    rw [hq.out, hW]; exact cquiet_any B g s _ (by omega) hs hsm (HCR.out.drewN nq)
  have KC : ∀ (s z : Nat), Sm s → Hid (z = size s) → Hid (∀ W, Calls Try.prog 34 #[.int .i64 (s : Int)] W fun e w' => e = .returned (.int .i64 (z : Int)) ∧ w' = W) := fun s z hs hz W => by
    rw [hz.out]; exact count_any s W hs.lt
  have Q0 := KQ _ _ (sm_or (sm_or s1 s2) s3) hq0
  have Q1 := KQ _ _ (sm_or s1 s4) hq1
  have Q2 := KQ _ _ (sm_or s2 s5) hq2
  have C0 := KC _ _ (sm_ldiff _ hfs) hzy
  have C1 := KC _ _ s4 hz1
  have C2 := KC _ _ s5 hz2
  have C3 := KC _ _ s3 hz3
  have CA : Hid (Calls Try.prog 37 #[.pointer (some ⟨B, 0, none⟩)] (w2.drewN nq) fun e w' => e = .returned (.int .i64 (full n)) ∧ w' = w2.drewN nq) := call_any B n _ (by omega) (by exact HCN.out)
  have t1 : Sm (x1 &&& x2) := sm_and_l _ s1
  have t2 : Sm (x1 &&& x3) := sm_and_l _ s1
  have t3 : Sm (x2 &&& x3) := sm_and_l _ s2
  have t4 : Sm ((x1 &&& x2) ||| (x1 &&& x3)) := sm_or t1 t2
  have t5 : Sm (x1 ||| x2) := sm_or s1 s2
  have t6 : Sm (x1 ||| x2 ||| x3) := sm_or t5 s3
  have t7 : Sm (y1 ||| y2) := sm_or s4 s5
  have t8 : Sm (ldiff (full n) (x1 ||| x2 ||| x3)) := sm_ldiff _ hfs
  clear KQ KC l0 l1 l2 l3 l4 hsm hl
  go_upto_region 6 with (go_at_call 37; refine (CA.out).mono ?_; rintro e w4 ⟨rfl, hw4⟩; subst hw4; try dsimp only)
  dsimp only [List.append]
  go_wp2_with (first
    | (go_at_call 38; with_reducible refine (Q0.out _ rfl).mono ?_; rintro e w4 ⟨rfl, hw4⟩; subst hw4; try dsimp only)
    | (go_at_call 38; with_reducible refine (Q1.out _ rfl).mono ?_; rintro e w4 ⟨rfl, hw4⟩; subst hw4; try dsimp only)
    | (go_at_call 38; with_reducible refine (Q2.out _ rfl).mono ?_; rintro e w4 ⟨rfl, hw4⟩; subst hw4; try dsimp only)
    | (go_at_call 34; with_reducible refine (C0.out _).mono ?_; rintro e w4 ⟨rfl, hw4⟩; subst hw4; try dsimp only)
    | (go_at_call 34; with_reducible refine (C1.out _).mono ?_; rintro e w4 ⟨rfl, hw4⟩; subst hw4; try dsimp only)
    | (go_at_call 34; with_reducible refine (C2.out _).mono ?_; rintro e w4 ⟨rfl, hw4⟩; subst hw4; try dsimp only)
    | (go_at_call 34; with_reducible refine (C3.out _).mono ?_; rintro e w4 ⟨rfl, hw4⟩; subst hw4; try dsimp only))
  all_goals
    go_ret
    refine ⟨ret_bool ?_, HB.out.trans ((below_dr (Below.refl _ _) nq).mono HB.out.size)⟩
    have hR := HS.out
    clear HS HO hm hM hq0 hq1 hq2 hzy hz1 hz2 hz3 hBB hcr hB1 HB HCN HCR Q0 Q1 Q2 C0 C1 C2 C3 CA
    first
    | (simp_all; done)
    | (simp_all; omega)
    | (rw [hR]
       have e4 : (y1 != 0) = true := bne_iff_ne.2 (by omega)
       have e5 : (y2 != 0) = true := bne_iff_ne.2 (by omega)
       have e1 : ((y1 : Int) != 0) = true := bne_iff_ne.2 (by omega)
       have e2 : ((y2 : Int) != 0) = true := bne_iff_ne.2 (by omega)
       have e3 : decide ((z3 : Int) ≤ (z1 : Int) + (z2 : Int)) = decide (z3 ≤ z1 + z2) := by congr 1; exact propext (by omega)
       simp [*])
end Go.Proofs.Ytfbobojpocnfeaa
