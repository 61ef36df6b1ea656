/- The law's awake: the wolf, the goat and the cabbage get across. -/
import Derived.Test.YtfbobojpocnfeaaPn
import Derived.Test.YtfbobojpocnfeaaSy
namespace Go.Proofs.Ytfbobojpocnfeaa
open Go.RowKit Go.Shelf

theorem Good.below {n : Nat} {ps : List (Int × Int)} {a : Option Addr} {w W : World} (h : Good n ps a w) (hB : Below w.heap.size w W) : Good n ps a W := ⟨h.hl, h.hg.below hB (Nat.le_refl _), h.n1, h.n2, h.ok⟩
theorem wolf_least_ok (a : Option Addr) (cap : Nat) (w : World) (h : Good 3 wolfE a w) :
    Calls Try.prog 12 #[.int .i64 3, .slice a 2 cap] w fun e w' => e = .returned (.tuple #[.int .i64 1, .int .i64 0]) ∧ Below w.heap.size w w' :=
  least_ok 3 wolfE a cap w h 1 (by decide) (by rw [wolf_g, wolf_cover]; decide) (by decide) ⟨_, by rw [wolf_g]; exact wolf_path⟩ (fun s h1 _ h2 => by omega)
theorem wolf_plan_ok (a : Option Addr) (cap : Nat) (w : World) (h : Good 3 wolfE a w) :
    Calls Try.prog 14 #[.int .i64 3, .slice a 2 cap, .int .i64 1] w fun e w' => ∃ g o c, ∃ ps : List Nat, e = .returned (.tuple #[.slice (some ⟨g, o, none⟩) 7 c, .bool true, .int .i64 0]) ∧ Below w.heap.size w w' ∧ ps.length = 7 ∧ isPath wolfG 1 (start wolfG) ps goal ∧ Ints w' (some ⟨g, o, none⟩) (ps.map fun (p : Nat) => (p : Int)) := by
  refine (show Calls Try.prog 14 #[.int .i64 3, .slice a 2 cap, .int .i64 1] w _ from plan_ok 3 wolfE a cap w h 1 (by decide)).mono ?_
  rintro e w' ⟨v, ok, rfl, hB, hR⟩
  rw [wolf_g] at hR
  rcases hR with ⟨_, _, hno⟩ | ⟨rfl, ps, hq, hp, hmin⟩
  · exact absurd wolf_path (hno _)
  · have h7 : ps.length = 7 := Nat.le_antisymm (hmin _ wolf_path) (wolf_least _ hp)
    obtain ⟨g, o, c, rfl, h1, h2, h3, h4, h5, h6⟩ := hq.at (by omega)
    refine ⟨g, o, c, ps, by rw [h7], hB, h7, hp, fun _ => ⟨g, o, rfl, h2, fun j hj => ?_⟩⟩
    rw [List.length_map] at hj
    rw [h5 j (by omega), List.getElem?_map, List.getElem?_map, List.getElem?_eq_getElem hj]
    rfl
theorem wolf_judge_ok (a : Option Addr) (cap : Nat) (w : World) (h : Good 3 wolfE a w) (g o c : Nat) (ps : List Nat) (h7 : ps.length = 7) (hp : isPath wolfG 1 (start wolfG) ps goal) (hi : Ints w (some ⟨g, o, none⟩) (ps.map fun (p : Nat) => (p : Int))) :
    Calls Try.prog 18 #[.int .i64 3, .slice a 2 cap, .int .i64 1, .slice (some ⟨g, o, none⟩) 7 c] w fun e w' => e = .returned (.bool true) ∧ Below w.heap.size w w' := by
  have hl : (ps.map fun (p : Nat) => (p : Int)).length = 7 := by simp [h7]
  have := isPlan_ok 3 wolfE a cap w h 1 (by decide) (some ⟨g, o, none⟩) (ps.map fun (p : Nat) => (p : Int)) c hi (by omega) (by omega) ?_
  · have hj := (path_judged hp).1
    rw [show (((1 : Nat) : Int)) = 1 from rfl] at hj
    rw [wolf_g, hj, hl] at this
    exact this
  · intro x hx
    obtain ⟨p, hp', rfl⟩ := List.mem_map.1 hx
    have : ∀ (ps : List Nat) (s t : St), Within s.1 7 → isPath wolfG 1 s ps t → ∀ p ∈ ps, p ≤ 7 := by
      intro ps
      induction ps with
      | nil => intro s t _ _ p hp; cases hp
      | cons q qs ih =>
        intro s t hs h p hp
        rcases List.mem_cons.1 hp with rfl | hp
        · exact (h.1.1.trans (bank_within (g := wolfG) hs)).le
        · exact ih _ _ (next_within (g := wolfG) hs h.1) h.2 p hp
    have := this ps _ _ (within_refl 7) hp p hp'
    omega
theorem wolf_struct_ok (a : Option Addr) (cap : Nat) (w : World) (h : Good 3 wolfE a w) :
    Calls Try.prog 19 #[.int .i64 3, .slice a 2 cap, .int .i64 1] w fun e w' => ∃ x1 x2 x3 y1 y2 : Nat, e = .returned (.tuple #[.agg #[.int .i64 x1, .int .i64 x2, .int .i64 x3, .int .i64 y1, .int .i64 y2], .bool true, .int .i64 0]) ∧ Below w.heap.size w w' ∧ x1 ≤ 7 ∧ x2 ≤ 7 ∧ x3 ≤ 7 ∧ y1 ≤ 7 ∧ y2 ≤ 7 ∧ structB wolfG 1 x1 x2 x3 y1 y2 = true := by
  refine (show Calls Try.prog 19 #[.int .i64 3, .slice a 2 cap, .int .i64 1] w _ from structure_ok 3 wolfE a cap w h 1 (by decide) (by decide)).mono ?_
  rintro e w' ⟨l, ok, rfl, hB, hR⟩
  rw [wolf_g] at hR
  rcases hR with ⟨_, _, hno⟩ | ⟨rfl, x, x1, x2, rfl, hx, hs, hy, hq, h1, hj, h2, h3⟩
  · obtain ⟨x, hx, hg⟩ := wolf_struct
    exact absurd hg (hno x hx)
  · refine ⟨x1, x2, _, _, _, rfl, hB, ?_, ?_, ?_, ?_, ?_, structR_B (by decide) hx hs hq h1 hj h2 h3⟩
    · exact (h1.trans hx).le
    · exact Nat.le_trans h2.le (Nat.le_trans (ldiff_le _ _) hx.le)
    · exact Nat.le_trans (ldiff_le _ _) (Nat.le_trans (ldiff_le _ _) hx.le)
    · exact Nat.le_trans (joinF_spec (sm_ldiff _ (sm_of (by decide))) hj).1.le (ldiff_le _ _)
    · exact Nat.le_trans (joinF_spec (sm_ldiff _ (sm_of (by decide))) h3.2.1).1.le (ldiff_le _ _)
set_option maxRecDepth 100000 in
set_option maxHeartbeats 1000000 in
theorem awake_any (w : World) : Calls Try.prog 17 #[] w fun e w' => e = .returned (.bool true) ∧ Below w.heap.size w w' := by
  go_enter Try.func17, Try.ntmps17
  have hB0 : Below w.heap.size w (w.alloc (.cells #[.int .i64 0, .int .i64 1, .int .i64 1, .int .i64 2] 49)) := (Below.refl _ _).alloc (Nat.le_refl _) _
  have hG0 : Good 3 wolfE (some ⟨w.heap.size, 0, none⟩) (w.alloc (.cells #[.int .i64 0, .int .i64 1, .int .i64 1, .int .i64 2] 49)) := by
    refine ⟨by decide, fun _ => ⟨w.heap.size, 0, rfl, by simp, fun j hj => ?_⟩, by decide, by decide, wolf_ok⟩
    have hbox : BoxN (w.alloc (.cells #[.int .i64 0, .int .i64 1, .int .i64 1, .int .i64 2] 49)) w.heap.size 49 #[.int .i64 0, .int .i64 1, .int .i64 1, .int .i64 2] := BoxN.new rfl
    have : j < 2 := hj
    rw [hbox.cell, hbox.cell]
    rcases (show j = 0 ∨ j = 1 by omega) with rfl | rfl <;> exact ⟨rfl, rfl⟩
  have HG0 := Lib.hid hG0
  have HB0 := Lib.hid hB0
  clear hG0 hB0
  go_upto_region 6 with (first
    | (go_at_call 24; refine (show Calls Try.prog 24 #[.int .i64 3, .slice (some ⟨w.heap.size, 0, none⟩) 2 2] _ _ from cover_ok 3 wolfE _ 2 _ HG0.out).mono ?_; rw [wolf_g, wolf_cover]; rintro e w1 ⟨rfl, hB1⟩; have HB1 := Lib.hid hB1; clear hB1; try dsimp only)
    | (go_at_call 12; refine (wolf_least_ok _ 2 _ (HG0.out.below HB1.out)).mono ?_; rintro e w2 ⟨rfl, hB2⟩; have HB2 := Lib.hid hB2; clear hB2; try dsimp only)
    | (go_at_call 14; refine (wolf_plan_ok _ 2 _ ((HG0.out.below HB1.out).below HB2.out)).mono ?_; rintro e w3 ⟨pg, po, pc, ps, rfl, hB3, h7, hp, hi⟩; have HB3 := Lib.hid hB3; have H7 := Lib.hid h7; have HP := Lib.hid hp; have HI := Lib.hid hi; clear hB3 h7 hp hi; try dsimp only)
    | (go_at_call 19; refine (wolf_struct_ok _ 2 _ (((HG0.out.below HB1.out).below HB2.out).below HB3.out)).mono ?_; rintro e w4 ⟨x1, x2, x3, y1, y2, rfl, hB4, z1, z2, z3, z4, z5, hst⟩; have HB4 := Lib.hid hB4; have HST := Lib.hid hst; clear hB4 hst; try dsimp only))
  try simp only [List.append]
  have hbox : BoxN (w4.alloc (.cells #[.int .i64 x1, .int .i64 x2, .int .i64 x3, .int .i64 y1, .int .i64 y2] 40)) w4.heap.size 40 #[.int .i64 x1, .int .i64 x2, .int .i64 x3, .int .i64 y1, .int .i64 y2] := BoxN.new rfl
  have hBX : Below w.heap.size w w4 := (((HB0.out.trans (HB1.out.mono (by simp))).trans (HB2.out.mono (by have := HB1.out.size; simp at this; omega))).trans (HB3.out.mono (by have := HB1.out.size; have := HB2.out.size; simp at *; omega))).trans (HB4.out.mono (by have := HB1.out.size; have := HB2.out.size; have := HB3.out.size; simp at *; omega))
  have hB4' : Below w4.heap.size w4 (w4.alloc (.cells #[.int .i64 x1, .int .i64 x2, .int .i64 x3, .int .i64 y1, .int .i64 y2] 40)) := (Below.refl _ _).alloc (Nat.le_refl _) _
  have hG4 : Good 3 wolfE (some ⟨w.heap.size, 0, none⟩) w4 := (((HG0.out.below HB1.out).below HB2.out).below HB3.out).below HB4.out
  have hBY := hBX.trans (hB4'.mono hBX.size)
  have hGY := hG4.below hB4'
  have hIY : Ints (w4.alloc (.cells #[.int .i64 x1, .int .i64 x2, .int .i64 x3, .int .i64 y1, .int .i64 y2] 40)) (some ⟨pg, po, none⟩) (ps.map fun (p : Nat) => (p : Int)) := (HI.out.below HB4.out (Nat.le_refl _)).below hB4' (Nat.le_refl _)
  generalize (w4.alloc (.cells #[.int .i64 x1, .int .i64 x2, .int .i64 x3, .int .i64 y1, .int .i64 y2] 40)) = Y at *
  have HGY := Lib.hid hGY
  have HBY := Lib.hid hBY
  have HIY := Lib.hid hIY
  have HBX := Lib.hid hbox
  clear hGY hBY hIY hB4' hG4 hBX hbox
  go_wp2_with (first
    | (go_at_call 18; refine (wolf_judge_ok _ 2 _ HGY.out pg po pc ps H7.out HP.out HIY.out).mono ?_; rintro e w5 ⟨rfl, hB5⟩; obtain ⟨l0, l1, l2, l3, l4, _⟩ := res5 (HBX.out.below hB5 HBX.out.lt); have HB5 := Lib.hid hB5; clear hB5; try dsimp only)
    | (go_at_call 22; refine (show Calls Try.prog 22 #[.int .i64 3, .slice (some ⟨w.heap.size, 0, none⟩) 2 2, .int .i64 1, .agg #[.int .i64 x1, .int .i64 x2, .int .i64 x3, .int .i64 y1, .int .i64 y2]] _ _ from isStructure_in 3 wolfE _ 2 _ (HGY.out.below HB5.out) 1 (by decide) x1 x2 x3 y1 y2 z1 z2 z3 z4 z5).mono ?_; rw [wolf_g, HST.out]; rintro e w6 ⟨rfl, hB6⟩; try dsimp only))
  go_ret
  exact ⟨rfl, (HBY.out.trans (HB5.out.mono HBY.out.size)).trans (hB6.mono (Nat.le_trans HBY.out.size HB5.out.size))⟩
end Go.Proofs.Ytfbobojpocnfeaa
