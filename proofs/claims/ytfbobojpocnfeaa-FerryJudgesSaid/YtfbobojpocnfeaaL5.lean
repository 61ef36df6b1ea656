/- FerryStructures: the walk of the law. -/
import Derived.Test.YtfbobojpocnfeaaHw
import Derived.Test.YtfbobojpocnfeaaL6
import Derived.Test.YtfbobojpocnfeaaL9
namespace Go.Proofs.Ytfbobojpocnfeaa
open Go.RowKit Go.Shelf

theorem um4 (z : Int) : ∃ r : Nat, r < 4 ∧ wrap64 (1 + wrap64 ((IntKind.u64.wrap z).tmod 4)) = ((1 + r : Nat) : Int) := by
  have h := um_lt z (show 1 ≤ 4 by decide)
  refine ⟨um z 4, h, ?_⟩
  have := um_eq z 4
  rw [show (((4 : Nat)) : Int) = 4 from rfl] at this
  rw [this, IntWalk.wrap64_in ((um z 4 : Nat) : Int) (by omega), IntWalk.wrap64_in _ (by omega)]; omega
set_option maxRecDepth 100000 in
set_option maxHeartbeats 2000000 in
theorem law5 (n : Int) (a : Option Addr) (cap : Nat) (ps : List (Int × Int)) (seats : Int) (w : World) (h : PairsIn w a cap ps) (_ : (Lit.int .i64 n).wf = true) (_ : (Lit.int .i64 seats).wf = true) :
    Calls Try.prog 5 #[.int .i64 n, .slice a ps.length cap, .int .i64 seats] w fun e w' => e = .returned (.bool true) ∧ Below w.heap.size w w' := by
  have HT := Lib.hid (tame_any n a cap ps 8 w h (by decide) (by decide))
  clear h
  generalize ps.length = len at *
  go_enter Try.func5, Try.ntmps5
  go_wp2_with (first
    | (go_at_call 10; refine (HT.out).mono ?_; rintro e w1 ⟨m, qs, a1, c1, rfl, hm, hG, hB1⟩; have HG := Lib.hid hG; have HB1 := Lib.hid hB1; clear hG hB1; try dsimp only)
    | (go_at_call 11; refine (of_any m a1 c1 qs w1 HG.out).mono ?_; rintro e w2 ⟨b, rfl, hb, hS, hB2⟩; have HS := Lib.hid hS; have HB2 := Lib.hid hB2; clear hS hB2; try dsimp only))
  have hGl : (ofE m qs).length = m := ofE_length m qs
  have hsm := ofE_sm HG.out.n2 HG.out.ok
  have hsy := ofE_sym HG.out.ok
  have hm2 := HG.out.n2
  have hm1 := HG.out.n1
  have hBW := HB1.out.trans (HB2.out.mono HB1.out.size)
  have KG : Hid (∀ W, Below w2.heap.size w2 W → Good m qs a1 W ∧ Sets W (some ⟨b, 0, none⟩) (ofE m qs)) := fun W hB => ⟨(HG.out.below HB2.out).below hB, HS.out.below hB⟩
  have HBW := Lib.hid hBW
  clear HG HB1 HB2 HS hBW HT
  have KO : Hid (∀ W (z : Int), Below w2.heap.size w2 W → (z < 1 ∨ 10 < z) → Calls Try.prog 19 #[.int .i64 m, .slice a1 qs.length c1, .int .i64 z] W fun e w' => e = .returned (.tuple #[.agg #[.int .i64 0, .int .i64 0, .int .i64 0, .int .i64 0, .int .i64 0], .bool false, .int .i64 1]) ∧ Below W.heap.size W w') := fun W z hB hz => structure_out m qs a1 c1 W (KG.out W hB).1 z hz
  -- where the number of seats is one that the chapter takes: what both say
  have KI : Hid (∀ (z : Int), 1 ≤ z → z ≤ 10 → ∃ q : Bool, (∀ W, Below w2.heap.size w2 W → Calls Try.prog 20 #[.slice (some ⟨b, 0, none⟩) m m, .int .i64 z] W fun e w' => e = .returned (.bool q) ∧ w' = W) ∧
      (∀ W, Below w2.heap.size w2 W → Calls Try.prog 19 #[.int .i64 m, .slice a1 qs.length c1, .int .i64 z] W fun e w' => ∃ x1 x2 x3 y1 y2 : Nat, e = .returned (.tuple #[.agg #[.int .i64 x1, .int .i64 x2, .int .i64 x3, .int .i64 y1, .int .i64 y2], .bool q, .int .i64 0]) ∧ Below W.heap.size W w' ∧
        (q = false → x1 = 0 ∧ x2 = 0 ∧ x3 = 0 ∧ y1 = 0 ∧ y2 = 0) ∧ (q = true → ∀ W', Below w2.heap.size w2 W' → Calls Try.prog 21 #[.slice (some ⟨b, 0, none⟩) m m, .int .i64 z, .agg #[.int .i64 x1, .int .i64 x2, .int .i64 x3, .int .i64 y1, .int .i64 y2]] W' fun e w'' => e = .returned (.bool true) ∧ Below W'.heap.size W' w''))) := by
    intro z hz1 hz2
    obtain ⟨q, hq⟩ : ∃ q : Bool, (q = true ↔ HasS (ofE m qs) z) := by
      by_cases h : HasS (ofE m qs) z
      · exact ⟨true, iff_of_true rfl h⟩
      · exact ⟨false, iff_of_false (by simp) h⟩
    refine ⟨q, fun W hB => ?_, fun W hB => ?_⟩
    · obtain ⟨q', hq', hc⟩ := has_any (some ⟨b, 0, none⟩) m (ofE m qs) z W (by omega) (by omega) hsm (KG.out W hB).2
      have : q' = q := by
        cases q <;> cases q' <;> simp_all [Hid]
      rw [hGl, this] at hc
      exact hc
    · refine (structure_ok m qs a1 c1 W (KG.out W hB).1 z hz1 hz2).mono ?_
      rintro e w' ⟨l, ok, rfl, hBw, hR⟩
      rcases hR with ⟨rfl, rfl, hno⟩ | ⟨rfl, x, x1, x2, rfl, hx, hs, hy, hqx, h1, hj, h2, h3⟩
      · have : q = false := by
          cases q with
          | false => rfl
          | true =>
            obtain ⟨x, hx, hgd⟩ := good_of_has (by omega) hsy (hq.1 rfl)
            exact absurd hgd (hno x hx)
        subst this
        exact ⟨0, 0, 0, 0, 0, rfl, hBw, fun _ => ⟨rfl, rfl, rfl, rfl, rfl⟩, fun h => by cases h⟩
      · have hgd : Good1 (ofE m qs) z x := ⟨hs, hy, hqx, x1, h1, hj, x2, h2, h3⟩
        have : q = true := hq.2 (has_of_good (by omega) hx hgd)
        subst this
        have hfs : Sm (full (ofE m qs).length) := sm_full (by omega)
        refine ⟨x1, x2, _, _, _, rfl, hBw, fun h => (by cases h), fun _ W' hB' => ?_⟩
        have hst := structR_B (by omega) hx hs hqx h1 hj h2 h3
        have := ris_in (some ⟨b, 0, none⟩) m (ofE m qs) z x1 x2 (ldiff (ldiff x x1) x2) (joinF (ofE m qs) x1 (ldiff (full (ofE m qs).length) x)) (joinF (ofE m qs) x2 (ldiff (full (ofE m qs).length) x)) W' (by omega) hsm (KG.out W' hB').2
          (h1.trans hx).le (Nat.le_trans h2.le (Nat.le_trans (ldiff_le _ _) hx.le)) (Nat.le_trans (ldiff_le _ _) (Nat.le_trans (ldiff_le _ _) hx.le)) (Nat.le_trans (joinF_spec (sm_ldiff _ hfs) hj).1.le (ldiff_le _ _)) (Nat.le_trans (joinF_spec (sm_ldiff _ hfs) h3.2.1).1.le (ldiff_le _ _))
        rw [hst] at this
        rw [hGl] at this ⊢
        exact this
  clear hsm hGl hsy hm1 hm2
  generalize qs.length = ql at *
  go_loopw [2, 9, 10, 11, 12] (fun s2 s9 _ _ _ wr => ∃ (k : Nat) (z : Int), k ≤ 2 ∧ s9 = .int .i64 k ∧ s2 = .int .i64 z ∧ Below w2.heap.size w2 wr) (fun _ s9 _ _ _ _ => 2 - (intOf s9).toNat)
  case atStart => exact ⟨0, seats, by omega, rfl, rfl, Below.refl _ _⟩
  case round =>
    obtain ⟨k, z, hk, rfl, rfl, hB⟩ := hrel
    by_cases hk2 : k < 2
    · have hki : ((k : Nat) : Int) < 2 := by omega
      have e40 := eq40
      by_cases hz : z < 1 ∨ 10 < z
      · have HK := Lib.hid (KO.out _ z hB hz)
        go_wp2_with (first
          | (go_at_call 19; refine (HK.out).mono ?_; rintro e w3 ⟨rfl, hB3⟩; obtain ⟨l0, l1, l2, l3, l4, m0, m1, m2, m3, m4⟩ := res5 (BoxN.new (W := w3) (B := w3.heap.size) (t := 40) (vs := #[.int .i64 0, .int .i64 0, .int .i64 0, .int .i64 0, .int .i64 0]) rfl); have HB3 := Lib.hid (hB.trans (hB3.mono hB.size)); clear hB3; try dsimp only))
        all_goals exact ⟨⟨k + 1, _, by omega, by go_num, rfl, HB3.out.alloc HB3.out.size _⟩, by simp [intOf]; omega⟩
      · obtain ⟨q, K20, K19⟩ := KI.out z (by omega) (by omega)
        have HK := Lib.hid (K19 _ hB)
        have HL := Lib.hid K20
        clear K20 K19
        have hz1 : 1 ≤ z := by omega
        have hz2 : z ≤ 10 := by omega
        clear hz
        cases q
        · go_wp2_with (first
            | (go_at_call 19; refine (HK.out).mono ?_; rintro e w3 ⟨y0, y1, y2, y3, y4, rfl, hB3, hf0, hst⟩; obtain ⟨l0, l1, l2, l3, l4, m0, m1, m2, m3, m4⟩ := res5 (BoxN.new (W := w3) (B := w3.heap.size) (t := 40) (vs := #[.int .i64 y0, .int .i64 y1, .int .i64 y2, .int .i64 y3, .int .i64 y4]) rfl); have HB3 := Lib.hid ((hB.trans (hB3.mono hB.size)).alloc (by have := hB.size; have := hB3.size; omega) (Obj.cells #[.int .i64 y0, .int .i64 y1, .int .i64 y2, .int .i64 y3, .int .i64 y4] 40)); have HST := Lib.hid hst; obtain ⟨h0, h1, h2, h3, h4⟩ := hf0 rfl; subst h0; subst h1; subst h2; subst h3; subst h4; clear hB3 hst; try dsimp only)
            | (go_at_call 20; refine (HL.out _ HB3.out).mono ?_; rintro e w4 ⟨rfl, hw⟩; subst hw; try dsimp only)
            | (go_at_call 21; refine (HST.out rfl _ HB3.out).mono ?_; rintro e w5 ⟨rfl, hB5⟩; have HB5 := Lib.hid hB5; clear hB5; try dsimp only))
          exact ⟨⟨k + 1, _, by omega, by go_num, rfl, HB3.out⟩, by simp [intOf]; omega⟩
        · go_wp2_with (first
            | (go_at_call 19; refine (HK.out).mono ?_; rintro e w3 ⟨y0, y1, y2, y3, y4, rfl, hB3, hf0, hst⟩; obtain ⟨l0, l1, l2, l3, l4, m0, m1, m2, m3, m4⟩ := res5 (BoxN.new (W := w3) (B := w3.heap.size) (t := 40) (vs := #[.int .i64 y0, .int .i64 y1, .int .i64 y2, .int .i64 y3, .int .i64 y4]) rfl); have HB3 := Lib.hid ((hB.trans (hB3.mono hB.size)).alloc (by have := hB.size; have := hB3.size; omega) (Obj.cells #[.int .i64 y0, .int .i64 y1, .int .i64 y2, .int .i64 y3, .int .i64 y4] 40)); have HST := Lib.hid hst; clear hf0; clear hB3 hst; try dsimp only)
            | (go_at_call 20; refine (HL.out _ HB3.out).mono ?_; rintro e w4 ⟨rfl, hw⟩; subst hw; try dsimp only)
            | (go_at_call 21; refine (HST.out rfl _ HB3.out).mono ?_; rintro e w5 ⟨rfl, hB5⟩; have HB5 := Lib.hid hB5; clear hB5; try dsimp only))
          exact ⟨⟨k + 1, _, by omega, by go_num, rfl, HB3.out.trans (HB5.out.mono HB3.out.size)⟩, by simp [intOf]; omega⟩
    · have : k = 2 := by omega
      subst this
      have HBr := Lib.hid hB
      clear hB
      go_wp2_with (go_at_call 17; refine (awake_any _).mono ?_; rintro e w6 ⟨rfl, hB6⟩; try dsimp only)
      go_ret
      exact ⟨rfl, HBW.out.trans ((HBr.out.trans (hB6.mono HBr.out.size)).mono HBW.out.size)⟩
end Go.Proofs.Ytfbobojpocnfeaa
