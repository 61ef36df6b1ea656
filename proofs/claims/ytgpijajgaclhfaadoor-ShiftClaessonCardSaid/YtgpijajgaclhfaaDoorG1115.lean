/- '==' on arrays of integers. The law's awake: a walk. The document's test of boats, and a law's walk: ShiftFrom. -/
import Derived.Test.YtgpijajgaclhfaaDoorG1113
import Derived.Laws.StructEq
import Derived.Laws.Small
import Derived.Laws.Cover2
import Derived.Test.YtgpijajgaclhfaaDoorG1114
set_option linter.unusedVariables false
set_option linter.unusedSimpArgs false
namespace Go.Proofs.YtgpijajgaclhfaaDoor
open Go.RowKit Go.Shelf

theorem under39 : Tryd.prog.underlying 39 = some (.array 2 3) := by kernel_rfl
theorem under45 : Tryd.prog.underlying 45 = some (.array 4 3) := by kernel_rfl
theorem guard39 : Tryd.prog.eqGuardType Tryd.prog.depth 39 = false := by kernel_rfl
theorem guard45 : Tryd.prog.eqGuardType Tryd.prog.depth 45 = false := by kernel_rfl
attribute [go_sem] run_eql_struct run_neq_struct
@[go_sem] theorem eq39 (a b c d : Int) (w : World) : (Op.equalIn 10000 39 (.agg #[.int .i64 a, .int .i64 b]) (.agg #[.int .i64 c, .int .i64 d])).run Tryd.prog w = .ok (a == c && b == d) w := by
  have u3 := Tryd.underlying3
  have a3 := Tryd.isAgg3
  have z3 := Tryd.sizeOf3
  rw [show (10000 : Nat) = 9999 + 1 from rfl, Op.equalIn]
  simp only [Sem.run_bind, run_underlying under39, Result.andThen_ok]
  simp only [Std.Legacy.Range.forIn_eq_forIn_range', Std.Legacy.Range.size, Nat.sub_zero, Nat.add_sub_cancel, Nat.div_one, List.range'_succ, List.range'_zero, List.forIn_cons, List.forIn_nil]
  go_simp
  by_cases h1 : a = c <;> by_cases h2 : b = d <;> simp [h1, h2]
@[go_sem] theorem eq45 (a b c d a' b' c' d' : Int) (w : World) : (Op.equalIn 10000 45 (.agg #[.int .i64 a, .int .i64 b, .int .i64 c, .int .i64 d]) (.agg #[.int .i64 a', .int .i64 b', .int .i64 c', .int .i64 d'])).run Tryd.prog w = .ok (a == a' && b == b' && c == c' && d == d') w := by
  have u3 := Tryd.underlying3
  have a3 := Tryd.isAgg3
  have z3 := Tryd.sizeOf3
  rw [show (10000 : Nat) = 9999 + 1 from rfl, Op.equalIn]
  simp only [Sem.run_bind, run_underlying under45, Result.andThen_ok]
  simp only [Std.Legacy.Range.forIn_eq_forIn_range', Std.Legacy.Range.size, Nat.sub_zero, Nat.add_sub_cancel, Nat.div_one, List.range'_succ, List.range'_zero, List.forIn_cons, List.forIn_nil]
  go_simp
  by_cases h1 : a = a' <;> by_cases h2 : b = b' <;> by_cases h3 : c = c' <;> by_cases h4 : d = d' <;> simp [h1, h2, h3, h4]
@[go_sem] theorem eqg39 (op : BinOp) (x y : Operand) (xs ys : Array Value) (w : World) : (eqGuard op 39 x y (.agg xs) (.agg ys)).run Tryd.prog w = .ok () w := run_eqGuard_agg w op 39 x y xs ys guard39
@[go_sem] theorem eqg45 (op : BinOp) (x y : Operand) (xs ys : Array Value) (w : World) : (eqGuard op 45 x y (.agg xs) (.agg ys)).run Tryd.prog w = .ok () w := run_eqGuard_agg w op 45 x y xs ys guard45
end Go.Proofs.YtgpijajgaclhfaaDoor
namespace Go.Proofs.YtgpijajgaclhfaaDoor
open Go.RowKit Go.Shelf

theorem aw_from (a : Option Addr) (w : World) (hg : Pairs w a awI) :
    Calls Tryd.prog 14 #[.slice a 4 4] w fun e w' => ∃ p c, e = .returned (.tuple #[.slice p 4 c, .int .i64 0]) ∧ TblI w' p 4 (fun _ => 4) (relI awI) ∧ Below w.heap.size w w' := by
  refine (show Calls Tryd.prog 14 #[.slice a 4 4] w _ from FromIv_any a 4 awI w (by decide) hg).mono ?_
  rintro e w' ⟨⟨c, rfl, hc, h0⟩ | ⟨v, rfl, hok, hT⟩, hB⟩
  · exact absurd (awI_ck hc) h0
  · obtain ⟨p, c, rfl⟩ := hT.isSlice
    exact ⟨p, c, rfl, hT.tbl, hB⟩
theorem aw_ivs (p : Option Addr) (c : Nat) (w : World) (hTb : Tab w) (hT : TblI w p 4 (fun _ => 4) (relI awI)) :
    Calls Tryd.prog 24 #[.slice p 4 c] w fun e w' => ∃ g o cap, e = .returned (.tuple #[.slice (some ⟨g, o, none⟩) 4 cap, .int .i64 0]) ∧ Below w.heap.size w w' ∧ g < w'.heap.size ∧ w'.cell? ⟨g, o + 2, none⟩ = some (.int .i64 1) ∧ w'.cell? ⟨g, o + 3, none⟩ = some (.int .i64 1) ∧ w'.cell? ⟨g, o + 6, none⟩ = some (.int .i64 0) ∧ w'.cell? ⟨g, o + 7, none⟩ = some (.int .i64 2) := by
  refine (Intervals_any p 4 c (fun _ => 4) (relI awI) w (by decide) hTb hT).mono ?_
  rintro e w' ⟨⟨_, h⟩ | ⟨_, _, a, b, c, d, h⟩ | ⟨v, L, rfl, _, _, hL, hq⟩, hB⟩
  · exact absurd (relI_tab awI_ok) h
  · exact absurd h (relI_no22 (ps := awI) a b c d)
  · rw [awI_canon hL] at hq
    obtain ⟨g, o, cap, rfl, _, hg, _, _, hc, _⟩ := hq.at (by decide)
    exact ⟨g, o, cap, rfl, hB, hg, hc 2 (by decide), hc 3 (by decide), hc 6 (by decide), hc 7 (by decide)⟩
theorem aw_three (p : Option Addr) (c : Nat) (w : World) (hTb : Tab w) (hT : TblI w p 4 (fun _ => 4) (relI awI)) :
    Calls Tryd.prog 45 #[.slice p 4 c] w fun e w' => ∃ x0 x1 x2 x3 : Nat, e = .returned (.tuple #[.agg #[.int .i64 (x0 : Int), .int .i64 (x1 : Int), .int .i64 (x2 : Int), .int .i64 (x3 : Int)], .bool true, .int .i64 0]) ∧ Below w.heap.size w w' := by
  refine (ThreeOne_any p 4 c (fun _ => 4) (relI awI) w (by decide) hTb hT).mono ?_
  rintro e w' ⟨⟨_, h⟩ | ⟨a, b, c, d, rfl, _, _⟩ | ⟨_, _, h⟩, hB⟩
  · exact absurd (relI_tab awI_ok) h
  · exact ⟨a, b, c, d, rfl, hB⟩
  · exact absurd awI_three (h 0 1 2 3)
theorem aw_boats (a : Option Addr) (w : World) (hg : Pairs w a awB) :
    Calls Tryd.prog 15 #[.slice a 3 3] w fun e w' => ∃ B, ∃ x y : Nat, e = .returned (.tuple #[.slice (some ⟨B, 0, none⟩) 3 3, .int .i64 1, .int .i64 0]) ∧ x ≠ y ∧ Below w.heap.size w w' ∧ B < w'.heap.size ∧ w'.cell? ⟨B, 0, none⟩ = some (.int .i64 (x : Int)) ∧ w'.cell? ⟨B, 1, none⟩ = some (.int .i64 (y : Int)) := by
  refine (show Calls Tryd.prog 15 #[.slice a 3 3] w _ from Boats_any a 3 awB w (by decide) hg).mono ?_
  rintro e w' ⟨⟨c, rfl, hc, h0⟩ | ⟨B, os, out, most, peak, rfl, _, hO, hI, hP, _, hR⟩, hB⟩
  · exact absurd (awB_ck hc) h0
  · obtain ⟨h1, h2⟩ := awB_boats hO hI hP
    subst h1
    exact ⟨B, out 0, out 1, rfl, h2, hB, hR.lt, hR.cell (by decide), hR.cell (by decide)⟩
theorem aw_asc (w : World) : Calls Tryd.prog 33 #[.int .i64 5] w fun e w' => e = .returned (.tuple #[.int .i64 53, .int .i64 0]) ∧ Below w.heap.size w w' := by
  refine (Ascents_any 5 w).mono ?_
  rintro e w' ⟨⟨_, h⟩ | ⟨k, hk, _, rfl⟩, hB⟩
  · omega
  · obtain rfl : k = 4 := by omega
    rw [asc5]
    exact ⟨rfl, hB⟩
theorem aw_mag (p : Option Addr) (c : Nat) (w : World) (hT : TblI w p 1 (fun _ => 1) (fun _ _ => true)) :
    Calls Tryd.prog 23 #[.slice p 1 c] w fun e w' => e = .returned (.tuple #[.int .i64 0, .int .i64 100]) ∧ Below w.heap.size w w' := by
  refine (Magnitude_any p 1 c (fun _ => 1) (fun _ _ => true) w (by decide) hT).mono ?_
  rintro e w' ⟨⟨rfl, _⟩ | ⟨L, _, h, _⟩, hB⟩
  · exact ⟨rfl, hB⟩
  · exact absurd h one_bad
theorem aw_tt (p : Option Addr) (c : Nat) (w : World) (hT : TblI w p 4 (fun _ => 4) awT) :
    Calls Tryd.prog 29 #[.slice p 4 c, .agg #[.int .i64 0, .int .i64 1, .int .i64 2, .int .i64 3]] w fun e w' => e = .returned (.bool true) ∧ Below w.heap.size w w' := by
  refine (IsTwoTwo_any p 4 c (fun _ => 4) awT 0 1 2 3 w (by decide) hT).mono ?_
  rintro e w' ⟨h, hB⟩
  exact ⟨h.dec (b := true) ⟨fun _ => ⟨awT_ok, by unfold In4; decide, awT_two⟩, fun _ => rfl⟩, hB⟩
set_option maxRecDepth 100000 in
set_option maxHeartbeats 4000000 in
theorem awake_any (w : World) (hT : Tab w) : Calls Tryd.prog 17 #[] w fun e w' => e = .returned (.bool true) ∧ Below w.heap.size w w' := by
  have HT := Lib.hid hT
  clear hT
  go_enter Tryd.func17, Tryd.ntmps17
  go_upto_region 1 with (fail)
  have hB0 : Below w.heap.size w (w.alloc (.cells #[.int .i64 0, .int .i64 0, .int .i64 1, .int .i64 1, .int .i64 2, .int .i64 2, .int .i64 0, .int .i64 2] 39)) := (Below.refl _ _).alloc (Nat.le_refl _) _
  have hP0 : Pairs (w.alloc (.cells #[.int .i64 0, .int .i64 0, .int .i64 1, .int .i64 1, .int .i64 2, .int .i64 2, .int .i64 0, .int .i64 2] 39)) (some ⟨w.heap.size, 0, none⟩) awI := pairs_new w awI _ rfl
  have HP0 := Lib.hid hP0
  have HB0 := Lib.hid hB0
  clear hP0 hB0
  go_upto_region 2 with (go_at_call 14; refine (aw_from _ _ HP0.out).mono ?_; rintro e w1 ⟨p1, c1, rfl, hT1, hB1⟩; have HB1 := Lib.hid (HB0.out.trans (hB1.mono HB0.out.size)); have HT1 := Lib.hid hT1; clear hB1 hT1)
  clear HP0
  go_upto_region 3 with (go_at_call 24; refine (aw_ivs _ _ _ (HT.out.below HB1.out (Nat.le_refl _)) HT1.out).mono ?_; rintro e w2 ⟨g2, o2, c2, rfl, hB2, hg2, l2, l3, l6, l7⟩; have HT2 := Lib.hid (HT1.out.below hB2 (Nat.le_refl _)); have HB2 := Lib.hid (HB1.out.trans (hB2.mono HB1.out.size)); clear hB2)
  have L2 : Hid (∀ W, Below w2.heap.size w2 W → W.cell? ⟨g2, o2 + 2, none⟩ = some (.int .i64 1) ∧ W.cell? ⟨g2, o2 + 3, none⟩ = some (.int .i64 1) ∧ W.cell? ⟨g2, o2 + 6, none⟩ = some (.int .i64 0) ∧ W.cell? ⟨g2, o2 + 7, none⟩ = some (.int .i64 2)) := fun W hW => ⟨(hW.cell (p := ⟨g2, o2 + 2, none⟩) hg2).trans l2, (hW.cell (p := ⟨g2, o2 + 3, none⟩) hg2).trans l3, (hW.cell (p := ⟨g2, o2 + 6, none⟩) hg2).trans l6, (hW.cell (p := ⟨g2, o2 + 7, none⟩) hg2).trans l7⟩
  clear l2 l3 l6 l7 hg2
  go_upto_region 4 with (go_at_call 45; refine (aw_three _ _ _ (HT.out.below HB2.out (Nat.le_refl _)) HT2.out).mono ?_; rintro e w3 ⟨x0, x1, x2, x3, rfl, hB3⟩; have HM3 := Lib.hid (hB3.alloc hB3.size (.cells #[.int .i64 (x0 : Int), .int .i64 (x1 : Int), .int .i64 (x2 : Int), .int .i64 (x3 : Int)] 45)); have HB3 := Lib.hid (HB2.out.trans (HM3.out.mono HB2.out.size)); clear hB3)
  have hB4 : Below (w3.alloc (.cells #[.int .i64 (x0 : Int), .int .i64 (x1 : Int), .int .i64 (x2 : Int), .int .i64 (x3 : Int)] 45)).heap.size (w3.alloc (.cells #[.int .i64 (x0 : Int), .int .i64 (x1 : Int), .int .i64 (x2 : Int), .int .i64 (x3 : Int)] 45)) _ := (Below.refl _ _).alloc (Nat.le_refl _) (.cells #[.int .i64 0, .int .i64 2, .int .i64 1, .int .i64 3, .int .i64 3, .int .i64 4] 39)
  have hP4 := pairs_new (w3.alloc (.cells #[.int .i64 (x0 : Int), .int .i64 (x1 : Int), .int .i64 (x2 : Int), .int .i64 (x3 : Int)] 45)) awB _ rfl
  generalize w3.alloc (.cells #[.int .i64 (x0 : Int), .int .i64 (x1 : Int), .int .i64 (x2 : Int), .int .i64 (x3 : Int)] 45) = X at *
  have HB4 := Lib.hid (HB3.out.trans (hB4.mono HB3.out.size))
  have HM4 := Lib.hid (HM3.out.trans (hB4.mono HM3.out.size))
  have HP4 := Lib.hid hP4
  clear hB4 hP4
  go_upto_region 5 with (go_at_call 15; refine (aw_boats _ _ HP4.out).mono ?_; rintro e w5 ⟨g5, x, y, rfl, hxy, hB5, hg5, k0, k1⟩; have HXY := Lib.hid hxy; have HM5 := Lib.hid (HM4.out.trans (hB5.mono HM4.out.size)); have HB5 := Lib.hid (HB4.out.trans (hB5.mono HB4.out.size)); clear hB5 hxy)
  have L5 : Hid (∀ W, Below w5.heap.size w5 W → W.cell? ⟨g5, 0, none⟩ = some (.int .i64 (x : Int)) ∧ W.cell? ⟨g5, 1, none⟩ = some (.int .i64 (y : Int))) := fun W hW => ⟨(hW.cell (p := ⟨g5, 0, none⟩) hg5).trans k0, (hW.cell (p := ⟨g5, 1, none⟩) hg5).trans k1⟩
  clear k0 k1 hg5
  go_upto_region 6 with (go_at_call 33; refine (aw_asc _).mono ?_; rintro e w6 ⟨rfl, hB6⟩; have HM6 := Lib.hid (HM5.out.trans (hB6.mono HM5.out.size)); have HB6 := Lib.hid (HB5.out.trans (hB6.mono HB5.out.size)); have HN6 := Lib.hid hB6; clear hB6)
  go_upto_region 7 with (fail)
  have hb0 : BoxN (w6.alloc (.cells #[.bool false, .bool true, .bool false, .bool false] 4)) w6.heap.size 4 #[.bool false, .bool true, .bool false, .bool false] := BoxN.new rfl
  have hb0 := (((hb0.alloc (.cells #[.bool false, .bool false, .bool false, .bool false] 4)).alloc (.cells #[.bool false, .bool false, .bool false, .bool true] 4)).alloc (.cells #[.bool false, .bool false, .bool false, .bool false] 4)).alloc (.cells #[.slice (some ⟨w6.heap.size, 0, none⟩) 4 4, .slice (some ⟨w6.heap.size + 1, 0, none⟩) 4 4, .slice (some ⟨w6.heap.size + 1 + 1, 0, none⟩) 4 4, .slice (some ⟨w6.heap.size + 1 + 1 + 1, 0, none⟩) 4 4] 60)
  have hb1 : BoxN ((w6.alloc (.cells #[.bool false, .bool true, .bool false, .bool false] 4)).alloc (.cells #[.bool false, .bool false, .bool false, .bool false] 4)) (w6.heap.size + 1) 4 #[.bool false, .bool false, .bool false, .bool false] := BoxN.new (by simp)
  have hb1 := ((hb1.alloc (.cells #[.bool false, .bool false, .bool false, .bool true] 4)).alloc (.cells #[.bool false, .bool false, .bool false, .bool false] 4)).alloc (.cells #[.slice (some ⟨w6.heap.size, 0, none⟩) 4 4, .slice (some ⟨w6.heap.size + 1, 0, none⟩) 4 4, .slice (some ⟨w6.heap.size + 1 + 1, 0, none⟩) 4 4, .slice (some ⟨w6.heap.size + 1 + 1 + 1, 0, none⟩) 4 4] 60)
  have hb2 : BoxN (((w6.alloc (.cells #[.bool false, .bool true, .bool false, .bool false] 4)).alloc (.cells #[.bool false, .bool false, .bool false, .bool false] 4)).alloc (.cells #[.bool false, .bool false, .bool false, .bool true] 4)) (w6.heap.size + 1 + 1) 4 #[.bool false, .bool false, .bool false, .bool true] := BoxN.new (by simp)
  have hb2 := (hb2.alloc (.cells #[.bool false, .bool false, .bool false, .bool false] 4)).alloc (.cells #[.slice (some ⟨w6.heap.size, 0, none⟩) 4 4, .slice (some ⟨w6.heap.size + 1, 0, none⟩) 4 4, .slice (some ⟨w6.heap.size + 1 + 1, 0, none⟩) 4 4, .slice (some ⟨w6.heap.size + 1 + 1 + 1, 0, none⟩) 4 4] 60)
  have hb3 : BoxN ((((w6.alloc (.cells #[.bool false, .bool true, .bool false, .bool false] 4)).alloc (.cells #[.bool false, .bool false, .bool false, .bool false] 4)).alloc (.cells #[.bool false, .bool false, .bool false, .bool true] 4)).alloc (.cells #[.bool false, .bool false, .bool false, .bool false] 4)) (w6.heap.size + 1 + 1 + 1) 4 #[.bool false, .bool false, .bool false, .bool false] := BoxN.new (by simp)
  have hb3 := hb3.alloc (.cells #[.slice (some ⟨w6.heap.size, 0, none⟩) 4 4, .slice (some ⟨w6.heap.size + 1, 0, none⟩) 4 4, .slice (some ⟨w6.heap.size + 1 + 1, 0, none⟩) 4 4, .slice (some ⟨w6.heap.size + 1 + 1 + 1, 0, none⟩) 4 4] 60)
  have hb4 : BoxN (((((w6.alloc (.cells #[.bool false, .bool true, .bool false, .bool false] 4)).alloc (.cells #[.bool false, .bool false, .bool false, .bool false] 4)).alloc (.cells #[.bool false, .bool false, .bool false, .bool true] 4)).alloc (.cells #[.bool false, .bool false, .bool false, .bool false] 4)).alloc (.cells #[.slice (some ⟨w6.heap.size, 0, none⟩) 4 4, .slice (some ⟨w6.heap.size + 1, 0, none⟩) 4 4, .slice (some ⟨w6.heap.size + 1 + 1, 0, none⟩) 4 4, .slice (some ⟨w6.heap.size + 1 + 1 + 1, 0, none⟩) 4 4] 60)) (w6.heap.size + 1 + 1 + 1 + 1) 60 #[.slice (some ⟨w6.heap.size, 0, none⟩) 4 4, .slice (some ⟨w6.heap.size + 1, 0, none⟩) 4 4, .slice (some ⟨w6.heap.size + 1 + 1, 0, none⟩) 4 4, .slice (some ⟨w6.heap.size + 1 + 1 + 1, 0, none⟩) 4 4] := BoxN.new (by simp)
  have hBU : Below w6.heap.size w6 (((((w6.alloc (.cells #[.bool false, .bool true, .bool false, .bool false] 4)).alloc (.cells #[.bool false, .bool false, .bool false, .bool false] 4)).alloc (.cells #[.bool false, .bool false, .bool false, .bool true] 4)).alloc (.cells #[.bool false, .bool false, .bool false, .bool false] 4)).alloc (.cells #[.slice (some ⟨w6.heap.size, 0, none⟩) 4 4, .slice (some ⟨w6.heap.size + 1, 0, none⟩) 4 4, .slice (some ⟨w6.heap.size + 1 + 1, 0, none⟩) 4 4, .slice (some ⟨w6.heap.size + 1 + 1 + 1, 0, none⟩) 4 4] 60)) :=
    ((((((Below.refl _ w6).alloc (Nat.le_refl _) _).alloc (by simp) _).alloc (by simp; omega) _).alloc (by simp; omega) _).alloc (by simp; omega) _)
  generalize (((((w6.alloc (.cells #[.bool false, .bool true, .bool false, .bool false] 4)).alloc (.cells #[.bool false, .bool false, .bool false, .bool false] 4)).alloc (.cells #[.bool false, .bool false, .bool false, .bool true] 4)).alloc (.cells #[.bool false, .bool false, .bool false, .bool false] 4)).alloc (.cells #[.slice (some ⟨w6.heap.size, 0, none⟩) 4 4, .slice (some ⟨w6.heap.size + 1, 0, none⟩) 4 4, .slice (some ⟨w6.heap.size + 1 + 1, 0, none⟩) 4 4, .slice (some ⟨w6.heap.size + 1 + 1 + 1, 0, none⟩) 4 4] 60)) = U at *
  have HTU : Hid (TblI U (some ⟨w6.heap.size + 1 + 1 + 1 + 1, 0, none⟩) 4 (fun _ => 4) awT) := tbl_of hb4.lt fun i hi => by
    rcases (show i = 0 ∨ i = 1 ∨ i = 2 ∨ i = 3 by omega) with rfl | rfl | rfl | rfl
    · exact ⟨_, _, hb4.cell 0, srcBl_of hb0 fun j hj => by rcases (show j = 0 ∨ j = 1 ∨ j = 2 ∨ j = 3 by omega) with rfl | rfl | rfl | rfl <;> rfl⟩
    · exact ⟨_, _, hb4.cell 1, srcBl_of hb1 fun j hj => by rcases (show j = 0 ∨ j = 1 ∨ j = 2 ∨ j = 3 by omega) with rfl | rfl | rfl | rfl <;> rfl⟩
    · exact ⟨_, _, hb4.cell 2, srcBl_of hb2 fun j hj => by rcases (show j = 0 ∨ j = 1 ∨ j = 2 ∨ j = 3 by omega) with rfl | rfl | rfl | rfl <;> rfl⟩
    · exact ⟨_, _, hb4.cell 3, srcBl_of hb3 fun j hj => by rcases (show j = 0 ∨ j = 1 ∨ j = 2 ∨ j = 3 by omega) with rfl | rfl | rfl | rfl <;> rfl⟩
  clear hb0 hb1 hb2 hb3 hb4
  have HBU := Lib.hid (HB6.out.trans (hBU.mono HB6.out.size))
  have HMU := Lib.hid (HM6.out.trans (hBU.mono HM6.out.size))
  have HNU := Lib.hid (HN6.out.trans (hBU.mono HN6.out.size))
  clear hBU
  obtain ⟨bt, hbt⟩ : ∃ bt, bt = w6.heap.size + 1 + 1 + 1 + 1 := ⟨_, rfl⟩
  rw [← hbt] at HTU
  simp only [← hbt]
  clear hbt
  have ho1 : BoxN (U.alloc (.cells #[.bool true] 4)) U.heap.size 4 #[.bool true] := BoxN.new rfl
  have ho1 := ho1.alloc (.cells #[.slice (some ⟨U.heap.size, 0, none⟩) 1 1] 60)
  have ho2 : BoxN ((U.alloc (.cells #[.bool true] 4)).alloc (.cells #[.slice (some ⟨U.heap.size, 0, none⟩) 1 1] 60)) (U.heap.size + 1) 60 #[.slice (some ⟨U.heap.size, 0, none⟩) 1 1] := BoxN.new (by simp)
  have hBV : Below U.heap.size U ((U.alloc (.cells #[.bool true] 4)).alloc (.cells #[.slice (some ⟨U.heap.size, 0, none⟩) 1 1] 60)) := ((Below.refl _ _).alloc (Nat.le_refl _) _).alloc (by simp) _
  have ht1 : TblI ((U.alloc (.cells #[.bool true] 4)).alloc (.cells #[.slice (some ⟨U.heap.size, 0, none⟩) 1 1] 60)) (some ⟨U.heap.size + 1, 0, none⟩) 1 (fun _ => 1) (fun _ _ => true) := tbl_of ho2.lt fun i hi => by
    obtain rfl : i = 0 := by omega
    refine ⟨_, _, ho2.cell 0, srcBl_of (m := 1) (f := fun _ => true) ho1 fun j hj => ?_⟩
    obtain rfl : j = 0 := by omega
    rfl
  have HMG := Lib.hid (aw_mag (some ⟨U.heap.size + 1, 0, none⟩) 1 _ ht1)
  clear ht1
  have HBV := Lib.hid (HBU.out.trans (hBV.mono HBU.out.size))
  have HMV := Lib.hid (HMU.out.trans (hBV.mono HMU.out.size))
  have HNV := Lib.hid (HNU.out.trans (hBV.mono HNU.out.size))
  have HTV := Lib.hid (HTU.out.below hBV (Nat.le_refl _))
  clear hBV ho1 ho2
  try simp only [List.append]
  go_upto_region 8 with (go_at_call 23; refine HMG.out.mono ?_; rintro e w8 ⟨rfl, hB8⟩; have HB8 := Lib.hid (HBV.out.trans (hB8.mono HBV.out.size)); have HM8 := Lib.hid (HMV.out.trans (hB8.mono HMV.out.size)); have HN8 := Lib.hid (HNV.out.trans (hB8.mono HNV.out.size)); have HT8 := Lib.hid (HTV.out.below hB8 (Nat.le_refl _)); clear hB8)
  try simp only [List.append]
  have hxy : ((x : Int) != (y : Int)) = true := by rw [bne_iff_ne]; have := HXY.out; omega
  have r2 : ∀ d : BW w8.heap.size w8, d.w.cell? ⟨g2, o2 + 2, none⟩ = some (.int .i64 1) := fun d => (L2.out _ (HM8.out.trans (d.b.mono HM8.out.size))).1
  have r3 : ∀ d : BW w8.heap.size w8, d.w.cell? ⟨g2, o2 + 3, none⟩ = some (.int .i64 1) := fun d => (L2.out _ (HM8.out.trans (d.b.mono HM8.out.size))).2.1
  have r6 : ∀ d : BW w8.heap.size w8, d.w.cell? ⟨g2, o2 + 6, none⟩ = some (.int .i64 0) := fun d => (L2.out _ (HM8.out.trans (d.b.mono HM8.out.size))).2.2.1
  have r7 : ∀ d : BW w8.heap.size w8, d.w.cell? ⟨g2, o2 + 7, none⟩ = some (.int .i64 2) := fun d => (L2.out _ (HM8.out.trans (d.b.mono HM8.out.size))).2.2.2
  have s0 : ∀ d : BW w8.heap.size w8, d.w.cell? ⟨g5, 0, none⟩ = some (.int .i64 (x : Int)) := fun d => (L5.out _ (HN8.out.trans (d.b.mono HN8.out.size))).1
  have s1 : ∀ d : BW w8.heap.size w8, d.w.cell? ⟨g5, 1, none⟩ = some (.int .i64 (y : Int)) := fun d => (L5.out _ (HN8.out.trans (d.b.mono HN8.out.size))).2
  have HE : Hid (∀ d : BW w8.heap.size w8, Calls Tryd.prog 29 #[.slice (some ⟨bt, 0, none⟩) 4 4, .agg #[.int .i64 0, .int .i64 1, .int .i64 2, .int .i64 3]] d.w fun e w' => e = .returned (.bool true) ∧ ∃ d' : BW w8.heap.size w8, w' = d'.w) := fun d => Calls.bw ((aw_tt _ 4 d.w (HT8.out.below d.b (Nat.le_refl _))).mono fun e w' ⟨h1, h2⟩ => ⟨h1, d.b.trans (h2.mono d.b.size)⟩)
  refine wp_region_bw (by kernel_rfl) (by kernel_rfl) ?_
  repeat (go_big_quiet_step ((first
    | rfl
    | (go_at_call 29; exact HE.out _))))
  refine wpQuiet_nil ?_
  rintro _ ⟨d, rfl⟩
  go_wp2
  go_ret
  exact ⟨rfl, HB8.out.trans (d.b.mono HB8.out.size)⟩
end Go.Proofs.YtgpijajgaclhfaaDoor
namespace Go.Proofs.YtgpijajgaclhfaaDoor
open Go.RowKit Go.Shelf

/-- boats are right: plain -/
def RightP (l u : Nat → Int) (m many : Nat) (out : Nat → Nat) : Prop := (∀ x, x < m → out x < many) ∧ ∀ x y, x < m → y < x → ¬ (out x = out y ∧ l x ≤ u y ∧ l y ≤ u x)
set_option maxRecDepth 100000 in
set_option maxHeartbeats 4000000 in
theorem rRight_any (a p : Option Addr) (cap c many : Nat) (ps : List (Int × Int)) (out : Nat → Nat) (w : World) (hl : ps.length ≤ 1000) (hg : Pairs w a ps) (hs : SrcI w p ps.length (fun x => (out x : Int))) (hR : RightP (la ps) (ua ps) ps.length many out) :
    Calls Tryd.prog 21 #[.slice a ps.length cap, .slice p ps.length c, .int .i64 (many : Int)] w fun e w' => e = .returned (.bool true) ∧ ∃ q, w' = w.drewN q := by
  have HG := Lib.hid hg
  have HS := Lib.hid hs
  have HR := Lib.hid hR
  obtain ⟨m, HL⟩ : ∃ m, Hid (ps.length = m) := ⟨_, rfl⟩
  rw [HL.out] at HS HR hl ⊢
  clear hg hs hR
  go_enter Tryd.func21, Tryd.ntmps21
  go_upto_region 4 with (fail)
  go_loopw [7] (fun s7 wr => ∃ i : Nat, i ≤ m ∧ s7 = .int .i64 (i : Int) ∧ ∃ q, Hid (wr = w.drewN q)) (fun s7 _ => m - (intOf s7).toNat)
  case atStart => exact ⟨0, by omega, rfl, 0, rfl⟩
  case round =>
    obtain ⟨i, hi, rfl, q, hw⟩ := hrel
    rw [hw.out]
    clear hw
    by_cases him : i < m
    · have g1 : (i : Int) < (m : Int) := by omega
      have g2 : (0 : Int) ≤ (i : Int) := by omega
      obtain ⟨b, o, rfl, hb, k1, k2⟩ := HG.out.at (k := i) (by rw [HL.out]; exact him)
      obtain ⟨b2, o2, rfl, hb2, hc⟩ := HS.out (by omega)
      have l0 := hc i him
      have hlt := HR.out.1 i him
      obtain ⟨lx, hlx⟩ : ∃ x, Hid (x = la ps i) := ⟨_, rfl⟩
      obtain ⟨ux, hux⟩ : ∃ x, Hid (x = ua ps i) := ⟨_, rfl⟩
      obtain ⟨bx, hbx⟩ : ∃ x, Hid (x = out i) := ⟨_, rfl⟩
      rw [← hlx.out] at k1
      rw [← hux.out] at k2
      have l1 : w.cell? ⟨b2, o2 + i, none⟩ = some (.int .i64 (bx : Int)) := by rw [hbx.out]; exact l0
      clear l0
      rw [← hbx.out] at hlt
      have HCC := Lib.hid hc
      have g5 : ¬ (bx : Int) < 0 := by omega
      have g6 : (bx : Int) < (many : Int) := by omega
      have g7 : ¬ many ≤ bx := by omega
      clear hc
      go_upto_region 9 with (fail)
      clear g5 g6 g7
      go_loopw [8] (fun s8 wr => ∃ j : Nat, j ≤ i ∧ s8 = .int .i64 (j : Int) ∧ ∃ q, Hid (wr = w.drewN q)) (fun s8 _ => m - (intOf s8).toNat)
      case atStart => exact ⟨0, by omega, rfl, q, rfl⟩
      case round =>
        obtain ⟨j, hj, rfl, q2, hw⟩ := hrel
        rw [hw.out]
        clear hw
        by_cases hji : j < i
        · have g3 : (j : Int) < (i : Int) := by omega
          have g4 : (0 : Int) ≤ (j : Int) := by omega
          have g5 : (j : Int) < (m : Int) := by omega
          obtain ⟨b', o', e', hb', p1, p2⟩ := HG.out.at (k := j) (by rw [HL.out]; omega)
          cases e'
          have l0 := HCC.out j (by omega)
          have hno := HR.out.2 i j him hji
          rw [← hlx.out, ← hux.out, ← hbx.out] at hno
          generalize la ps j = ly at *
          generalize ua ps j = uy at *
          have l2 : w.cell? ⟨b2, o2 + j, none⟩ = some (.int .i64 ((out j : Nat) : Int)) := l0
          clear l0
          generalize out j = by_ at *
          have HNO := Lib.hid hno
          clear hno
          by_cases h1 : bx = by_
          · subst h1
            by_cases h2 : lx ≤ uy
            · have e2 : decide (lx ≤ uy) = true := by simpa using h2
              have h3 : ¬ ly ≤ ux := fun h => HNO.out ⟨rfl, h2, h⟩
              have e3 : decide (ly ≤ ux) = false := by simpa using h3
              go_wp2
              go_quiet (fail)
              go_wp2
              exact ⟨⟨j + 1, by omega, int_eq (by omega), _, rfl⟩, by simp [intOf]; omega⟩
            · have e2 : decide (lx ≤ uy) = false := by simpa using h2
              go_wp2
              go_quiet (fail)
              go_wp2
              exact ⟨⟨j + 1, by omega, int_eq (by omega), _, rfl⟩, by simp [intOf]; omega⟩
          · have e1 : ((bx : Int) == (by_ : Int)) = false := by rw [beq_eq_false_iff_ne]; omega
            go_wp2
            go_quiet (fail)
            go_wp2
            exact ⟨⟨j + 1, by omega, int_eq (by omega), _, rfl⟩, by simp [intOf]; omega⟩
        · have g3 : ¬ (j : Int) < (i : Int) := by omega
          obtain rfl : i = j := by omega
          go_wp2
          exact ⟨⟨i + 1, by omega, int_eq (by omega), q2, rfl⟩, by simp [intOf]; omega⟩
    · have g1 : ¬ (i : Int) < (m : Int) := by omega
      obtain rfl : i = m := by omega
      go_wp2
      go_ret
      exact ⟨rfl, q, rfl⟩
end Go.Proofs.YtgpijajgaclhfaaDoor
