/- FerryFives: the walk of the law. -/
import Derived.Test.YtfbobojpocnfeaaRi
import Derived.StillTailTactics
namespace Go.Proofs.Ytfbobojpocnfeaa
open Go.RowKit Go.Shelf

def Ten5 (xs : List Int) : Prop := xs.length = 5
/-- five numbers in a box -/
def Box5 (W : World) (b : Nat) (xs : List Int) : Prop := xs.length = 5 ∧ BoxN W b 40 (xs.map (Value.int .i64)).toArray
theorem Box5.below {W W' : World} {b : Nat} {xs : List Int} (h : Box5 W b xs) (hB : Below W.heap.size W W') : Box5 W' b xs := ⟨h.1, h.2.below hB h.2.lt⟩
theorem Box5.get {W : World} {b : Nat} {xs : List Int} (h : Box5 W b xs) : ∃ x0 x1 x2 x3 x4, xs = [x0, x1, x2, x3, x4] ∧ BoxN W b 40 #[.int .i64 x0, .int .i64 x1, .int .i64 x2, .int .i64 x3, .int .i64 x4] := by
  obtain ⟨h1, h2⟩ := h
  match xs, h1, h2 with
  | [x0, x1, x2, x3, x4], _, h2 => exact ⟨x0, x1, x2, x3, x4, rfl, h2⟩
theorem Pairs.ag {ex : Nat → Prop} {W W' : World} {a : Option Addr} {ps : List (Int × Int)} (h : Pairs W a ps) (hA : Ag ex W W') (he : ps ≠ [] → ∀ ad, a = some ad → ¬ ex ad.block) : Pairs W' a ps := fun hne => by
  obtain ⟨b, off, e, hb, hc⟩ := h hne
  have hk := hA.block b hb (he hne _ e)
  have hcell : ∀ o, W'.cell? ⟨b, o, none⟩ = W.cell? ⟨b, o, none⟩ := fun o => World.cell?_of_block hk
  exact ⟨b, off, e, Nat.lt_of_lt_of_le hb hA.size, fun j hj => ⟨(hcell _).trans (hc j hj).1, (hcell _).trans (hc j hj).2⟩⟩
theorem Sets.ag {ex : Nat → Prop} {W W' : World} {b off : Nat} {g : List Nat} (h : Sets W (some ⟨b, off, none⟩) g) (hA : Ag ex W W') (he : ¬ ex b) : Sets W' (some ⟨b, off, none⟩) g := by
  obtain ⟨b', off', e, hb, hc⟩ := h
  cases e
  have hk := hA.block b hb he
  exact ⟨b, off, rfl, Nat.lt_of_lt_of_le hb hA.size, fun j hj => (World.cell?_of_block hk).trans (hc j hj)⟩
theorem um_rules (z : Int) (f : Nat) (hf : f < 1048576) : ∃ F1 r : Nat, r ≤ f ∧ (0 : Int) < (F1 : Int) ∧ F1 ≠ 0 ∧ IntKind.i64.wrap ((f : Int) + 1) = (F1 : Int) ∧ wrap64 ((f : Int) + 1) = (F1 : Int) ∧ IntKind.u64.wrap (F1 : Int) = (F1 : Int) ∧
    IntKind.i64.wrap ((IntKind.u64.wrap z).tmod (F1 : Int)) = (r : Int) ∧ wrap64 ((IntKind.u64.wrap z).tmod (F1 : Int)) = (r : Int) := by
  have h := um_lt z (show 1 ≤ f + 1 by omega)
  refine ⟨f + 1, um z (f + 1), by omega, by omega, by omega, ?_, ?_, IntWalk.u64_in _ (by omega), ?_, ?_⟩
  · rw [IntWalk.i64_in _ (by omega)]; omega
  · rw [IntWalk.wrap64_in _ (by omega)]; omega
  · rw [um_eq, IntWalk.i64_in _ (by omega)]
  · rw [um_eq, IntWalk.wrap64_in _ (by omega)]
set_option maxRecDepth 100000 in
set_option maxHeartbeats 1000000 in
theorem law6 (n : Int) (a : Option Addr) (cap : Nat) (ps : List (Int × Int)) (x0 x1 x2 x3 x4 : Int) (w : World) (h : PairsIn w a cap ps) :
    Calls Try.prog 6 #[.int .i64 n, .slice a ps.length cap, .agg #[.int .i64 x0, .int .i64 x1, .int .i64 x2, .int .i64 x3, .int .i64 x4]] w fun e w' => e = .returned (.bool true) ∧ Below w.heap.size w w' := by
  have hB0 : Below w.heap.size w (w.alloc (.cells #[.int .i64 x0, .int .i64 x1, .int .i64 x2, .int .i64 x3, .int .i64 x4] 40)) := (Below.refl _ _).alloc (Nat.le_refl _) _
  have hbx : Box5 (w.alloc (.cells #[.int .i64 x0, .int .i64 x1, .int .i64 x2, .int .i64 x3, .int .i64 x4] 40)) w.heap.size [x0, x1, x2, x3, x4] := ⟨rfl, BoxN.new rfl⟩
  have hP : PairsIn (w.alloc (.cells #[.int .i64 x0, .int .i64 x1, .int .i64 x2, .int .i64 x3, .int .i64 x4] 40)) a cap ps := ⟨h.g.below hB0 (Nat.le_refl _), h.fits, h.capm, h.nil⟩
  have HT := Lib.hid (tame_fresh n a cap ps 10 _ hP (by decide) (by decide))
  have HB0 := Lib.hid hB0
  have HBX := Lib.hid hbx
  clear h hB0 hbx hP
  generalize ps.length = len at *
  go_enter Try.func6, Try.ntmps6
  go_wp2_with (first
    | (go_at_call 10; refine (HT.out).mono ?_; rintro e w1 ⟨m, qs, a1, c1, rfl, hm, hG, hB1, hF⟩; have HF := Lib.hid hF; clear hF; have HG := Lib.hid hG; have HB1 := Lib.hid hB1; clear hG hB1; try dsimp only)
    | (go_at_call 11; refine (of_any m a1 c1 qs w1 HG.out).mono ?_; rintro e w2 ⟨b, rfl, hb, hS, hB2⟩; have HS := Lib.hid hS; have HB2 := Lib.hid hB2; clear hS hB2; try dsimp only))
  have hGl : (ofE m qs).length = m := ofE_length m qs
  have hsm := ofE_sm HG.out.n2 HG.out.ok
  have hm2 := HG.out.n2
  have hBW : Below w.heap.size w w2 := (HB0.out.trans (HB1.out.mono (by simp))).trans (HB2.out.mono (by have := HB1.out.size; simp at this; omega))
  have hbx : Box5 w2 w.heap.size [x0, x1, x2, x3, x4] := (HBX.out.below HB1.out).below HB2.out
  have hlo : w.heap.size < w2.heap.size := hbx.2.lt
  have hw1 : w.heap.size + 1 ≤ w1.heap.size := by have := HB1.out.size; simpa using this
  have KG : Hid (∀ W, Ag (fun k => k = w.heap.size) w2 W → Good m qs a1 W ∧ Sets W (some ⟨b, 0, none⟩) (ofE m qs)) := fun W hA => ⟨⟨HG.out.hl, (HG.out.hg.below HB2.out (Nat.le_refl _)).ag hA (fun hne ad hd e => by have := HF.out hne ad hd; simp at this; omega), HG.out.n1, HG.out.n2, HG.out.ok⟩, HS.out.ag hA (by omega)⟩
  have HBW := Lib.hid hBW
  clear HG HB1 HB2 HS HF HBX HT HB0 hBW hw1
  have hfs : Sm (full m) := sm_full (by omega)
  have hfl := hfs.lt
  have KA : Hid (∀ W, Calls Try.prog 23 #[.slice (some ⟨b, 0, none⟩) m m] W fun e w' => e = .returned (.int .i64 (full m)) ∧ w' = W) := fun W => all_any _ m m W (by omega)
  -- what both say of five numbers
  have KI : Hid (∀ (x0 x1 x2 x3 x4 : Int) (s : Nat), ∃ q : Bool, (s = 0 → q = false) ∧ (∀ W, Ag (fun k => k = w.heap.size) w2 W → Calls Try.prog 22 #[.int .i64 m, .slice a1 qs.length c1, .int .i64 (s : Int), .agg #[.int .i64 x0, .int .i64 x1, .int .i64 x2, .int .i64 x3, .int .i64 x4]] W fun e w' => e = .returned (.bool q) ∧ Below W.heap.size W w') ∧
      (1 ≤ s → ∀ W, Ag (fun k => k = w.heap.size) w2 W → Calls Try.prog 21 #[.slice (some ⟨b, 0, none⟩) m m, .int .i64 (s : Int), .agg #[.int .i64 x0, .int .i64 x1, .int .i64 x2, .int .i64 x3, .int .i64 x4]] W fun e w' => e = .returned (.bool q) ∧ Below W.heap.size W w')) := by
    intro x0 x1 x2 x3 x4 s
    by_cases ho : (x0 < 0 ∨ x1 < 0 ∨ x2 < 0 ∨ x3 < 0 ∨ x4 < 0) ∨ ((full m : Int) < x0 ∨ (full m : Int) < x1 ∨ (full m : Int) < x2 ∨ (full m : Int) < x3 ∨ (full m : Int) < x4)
    · refine ⟨false, fun _ => rfl, fun W hA => isStructure_out m qs a1 c1 W (KG.out W hA).1 s x0 x1 x2 x3 x4 (.inr ho), fun _ W hA => ris_out _ m m s x0 x1 x2 x3 x4 W hm2 ?_⟩
      rcases ho with (h | h | h | h | h) | (h | h | h | h | h)
      · exact ⟨0, by decide, .inl h⟩
      · exact ⟨1, by decide, .inl h⟩
      · exact ⟨2, by decide, .inl h⟩
      · exact ⟨3, by decide, .inl h⟩
      · exact ⟨4, by decide, .inl h⟩
      · exact ⟨0, by decide, .inr h⟩
      · exact ⟨1, by decide, .inr h⟩
      · exact ⟨2, by decide, .inr h⟩
      · exact ⟨3, by decide, .inr h⟩
      · exact ⟨4, by decide, .inr h⟩
    · by_cases hs : s = 0
      · exact ⟨false, fun _ => rfl, fun W hA => isStructure_out m qs a1 c1 W (KG.out W hA).1 s x0 x1 x2 x3 x4 (.inl (by omega)), fun h => by omega⟩
      · obtain ⟨z0, rfl⟩ := Int.eq_ofNat_of_zero_le (show 0 ≤ x0 by omega)
        obtain ⟨z1, rfl⟩ := Int.eq_ofNat_of_zero_le (show 0 ≤ x1 by omega)
        obtain ⟨z2, rfl⟩ := Int.eq_ofNat_of_zero_le (show 0 ≤ x2 by omega)
        obtain ⟨z3, rfl⟩ := Int.eq_ofNat_of_zero_le (show 0 ≤ x3 by omega)
        obtain ⟨z4, rfl⟩ := Int.eq_ofNat_of_zero_le (show 0 ≤ x4 by omega)
        refine ⟨structB (ofE m qs) s z0 z1 z2 z3 z4, fun h => absurd h hs, fun W hA => isStructure_in m qs a1 c1 W (KG.out W hA).1 s (by omega) z0 z1 z2 z3 z4 (by omega) (by omega) (by omega) (by omega) (by omega), fun _ W hA => ?_⟩
        have := ris_in (some ⟨b, 0, none⟩) m (ofE m qs) s z0 z1 z2 z3 z4 W (by omega) hsm (KG.out W hA).2 (by rw [hGl]; omega) (by rw [hGl]; omega) (by rw [hGl]; omega) (by rw [hGl]; omega) (by rw [hGl]; omega)
        rw [hGl] at this
        exact this
  clear hsm hGl
  generalize qs.length = ql at *
  have hum : ∀ z, um z (full m + 1) < full m + 1 := fun z => um_lt z (by omega)
  have HUM := Lib.hid hum
  clear hum
  go_loopw [9, 10, 11, 12] (fun s9 _ _ _ wr => ∃ (k : Nat) (xs : List Int), k ≤ 2 ∧ s9 = .int .i64 k ∧ Box5 wr w.heap.size xs ∧ Ag (fun k => k = w.heap.size) w2 wr) (fun s9 _ _ _ _ => 2 - (intOf s9).toNat)
  case atStart => exact ⟨0, _, by omega, rfl, hbx, Ag.refl _ _⟩
  case round =>
    obtain ⟨k, xs, hk, rfl, hbk, hA⟩ := hrel
    by_cases hk2 : k < 2
    · have hk2b : decide ((k : Int) < 2) = true := decide_eq_true (by omega)
      clear hbx
      go_wp2
      go_loopw [10] (fun s10 wr => ∃ s : Nat, s ≤ 5 ∧ s10 = .int .i64 s ∧ Box5 wr w.heap.size xs ∧ Ag (fun k => k = w.heap.size) w2 wr) (fun s10 _ => 5 - (intOf s10).toNat)
      case atStart => exact ⟨0, by omega, rfl, hbk, hA⟩
      case round =>
        clear hbk hA
        obtain ⟨s, hs, rfl, hbk, hA⟩ := hrel
        obtain ⟨y0, y1, y2, y3, y4, rfl, hbox⟩ := hbk.get
        obtain ⟨l0, l1, l2, l3, l4, m0, m1, m2, m3, m4⟩ := res5 hbox
        by_cases hs5 : s < 5
        · obtain ⟨q, hq0, K22, K21⟩ := KI.out y0 y1 y2 y3 y4 s
          have HK := Lib.hid K22
          have HL := Lib.hid K21
          have HA := Lib.hid hA
          have HBK := Lib.hid hbk
          clear K22 K21 hbk hA
          by_cases hs1 : 1 ≤ s
          · have h1i : (1 : Int) ≤ (s : Int) := by omega
            clear hq0
            cases q
            all_goals
              go_wp2_with (first
                | (go_at_call 22; refine (HK.out _ HA.out).mono ?_; rintro e w3 ⟨rfl, hB3⟩; obtain ⟨l0, l1, l2, l3, l4, m0, m1, m2, m3, m4⟩ := res5 (hbox.below hB3 hbox.lt); have HB3 := Lib.hid hB3; clear hB3; try dsimp only)
                | (go_at_call 21; refine (HL.out hs1 _ (HA.out.trans (Ag.of_below HB3.out))).mono ?_; rintro e w4 ⟨rfl, hB4⟩; have HB4 := Lib.hid hB4; clear hB4; try dsimp only))
              exact ⟨⟨s + 1, by omega, by go_num, (HBK.out.below HB3.out).below HB4.out, (HA.out.trans (Ag.of_below HB3.out)).trans (Ag.of_below HB4.out)⟩, by simp [intOf]; omega⟩
          · obtain rfl : s = 0 := by omega
            have hqf := hq0 rfl
            subst hqf
            clear hq0
            go_wp2_with (first
              | (go_at_call 22; refine (HK.out _ HA.out).mono ?_; rintro e w3 ⟨rfl, hB3⟩; have HB3 := Lib.hid hB3; clear hB3; try dsimp only))
            exact ⟨⟨1, by omega, by go_num, HBK.out.below HB3.out, HA.out.trans (Ag.of_below HB3.out)⟩, by simp [intOf]⟩
        · have : s = 5 := by omega
          subst this
          simp only [show ((5 : Nat) : Int) = 5 from rfl]
          clear hbox l0 l1 l2 l3 l4 m0 m1 m2 m3 m4
          go_wp2
          go_loopw [11] (fun s11 wr => ∃ (i : Nat) (xs : List Int), i ≤ 5 ∧ s11 = .int .i64 i ∧ Box5 wr w.heap.size xs ∧ Ag (fun k => k = w.heap.size) w2 wr ∧ Hid (∀ j, j < i → 0 ≤ xs[j]?.getD 0 ∧ xs[j]?.getD 0 ≤ (full m : Int))) (fun s11 _ => 5 - (intOf s11).toNat)
          case atStart => exact ⟨0, _, by omega, rfl, hbk, hA, fun j hj => by omega⟩
          case round =>
            clear hbk hA
            obtain ⟨i, xs, hi, rfl, hbk, hA, hrg⟩ := hrel
            by_cases hi5 : i < 5
            · have hci := five_at hbk.2 i (by rw [hbk.1]; exact hi5)
              have hfi := hbk.2.frozen i
              have hii : ((i : Nat) : Int) < 5 := by omega
              have hi0 : (0 : Int) ≤ (i : Int) := by omega
              have hnx : ∀ v, Box5 (wr.setCell ⟨w.heap.size, i, none⟩ (.int .i64 v)) w.heap.size (xs.set i v) := fun v => ⟨by rw [List.length_set]; exact hbk.1, by
                have := hbk.2.set i (.int .i64 v)
                rw [List.map_set]
                simpa using this⟩
              have HNX := Lib.hid hnx
              have HBK := Lib.hid hbk
              have HA := Lib.hid hA
              clear hnx hbk hA
              generalize hzz : xs[i]?.getD 0 = z at hci
              obtain ⟨F1, r, hr1, hFi, hFn, eS, eS', eu, em, em'⟩ := um_rules z (full m) hfl
              clear hzz
              go_upto_region 14 with (fail)
              refine wp_region_still_tail 12 (by kernel_rfl) (by kernel_rfl) ?_
              change wpStill _ _ (World.drew _) (fun a' => wpList _ _ _ _ a' (World.drew _)) _ _
              simp only [List.take_succ_cons, List.take_zero, List.drop_succ_cons, List.drop_zero]
              have hci' : wr.drew.cell? ⟨w.heap.size, i, none⟩ = some (.int .i64 z) := hci
              have hfi' : wr.drew.frozen? ⟨w.heap.size, i, none⟩ = false := hfi
              clear hci hfi
              repeat still_step
              still_call (KA.out _)
              repeat still_step
              repeat still_step
              refine wpStill_nil ?_
              go_wp2
              clear eS eS' eu em em' hFn hFi
              go_roundw
              case rel =>
                refine ⟨i + 1, xs.set i (r : Int), by omega, by go_num, HNX.out (r : Int), (HA.out.set ⟨w.heap.size, i, none⟩ _ (.inr rfl)).drewN 1, fun j hj => ?_⟩
                by_cases e : j = i
                · subst e
                  rw [List.getElem?_set_self (by rw [HBK.out.1]; exact hi5)]
                  simp; omega
                · rw [List.getElem?_set_ne (fun e' => e e'.symm)]
                  exact hrg.out j (by omega)
              case measure => simp [intOf]; omega
            · have : i = 5 := by omega
              subst this
              obtain ⟨y0, y1, y2, y3, y4, rfl, hbox⟩ := hbk.get
              have r0 := hrg.out 0 (by decide)
              have r1 := hrg.out 1 (by decide)
              have r2 := hrg.out 2 (by decide)
              have r3 := hrg.out 3 (by decide)
              have r4 := hrg.out 4 (by decide)
              simp at r0 r1 r2 r3 r4
              obtain ⟨z0, rfl⟩ := Int.eq_ofNat_of_zero_le r0.1
              obtain ⟨z1, rfl⟩ := Int.eq_ofNat_of_zero_le r1.1
              obtain ⟨z2, rfl⟩ := Int.eq_ofNat_of_zero_le r2.1
              obtain ⟨z3, rfl⟩ := Int.eq_ofNat_of_zero_le r3.1
              obtain ⟨z4, rfl⟩ := Int.eq_ofNat_of_zero_le r4.1
              have b0 : Sm z0 := Nat.lt_of_le_of_lt (show z0 ≤ full m by omega) hfs
              have b1 : Sm z1 := Nat.lt_of_le_of_lt (show z1 ≤ full m by omega) hfs
              have b2 : Sm z2 := Nat.lt_of_le_of_lt (show z2 ≤ full m by omega) hfs
              have b3 : Sm z3 := Nat.lt_of_le_of_lt (show z3 ≤ full m by omega) hfs
              have b4 : Sm z4 := Nat.lt_of_le_of_lt (show z4 ≤ full m by omega) hfs
              have b34 := sm_or b3 b4
              obtain ⟨l0, l1, l2, l3, l4, m0, m1, m2, m3, m4⟩ := res5 hbox
              clear r0 r1 r2 r3 r4 hbk hrg
              have HBX := Lib.hid hbox
              have HA := Lib.hid hA
              clear hbox hA
              go_upto_region 18 with (fail)
              have hlow : ∀ a b : Nat, ldiff a b ≤ a := ldiff_le
              have q0 := hlow z0 (z3 ||| z4)
              have q1 := hlow (ldiff z1 (z3 ||| z4)) (ldiff z0 (z3 ||| z4))
              have q1' := hlow z1 (z3 ||| z4)
              have c0 := sm_ldiff (z3 ||| z4) b0
              have c1 := sm_ldiff (ldiff z0 (z3 ||| z4)) (sm_ldiff (z3 ||| z4) b1)
              generalize ldiff z0 (z3 ||| z4) = n0 at *
              generalize ldiff (ldiff z1 (z3 ||| z4)) n0 = n1 at *
              have hbz := (HBX.out.set 0 (.int .i64 (n0 : Int))).set 1 (.int .i64 (n1 : Int))
              have hAz := (HA.out.set ⟨w.heap.size, 0, none⟩ (.int .i64 (n0 : Int)) (.inr rfl)).set ⟨w.heap.size, 1, none⟩ (.int .i64 (n1 : Int)) (.inr rfl)
              simp only [List.setIfInBounds_toArray, List.set_cons_zero, List.set_cons_succ] at hbz
              clear l0 l1 l2 l3 l4 m0 m1 m2 m3 m4 hlow
              generalize ((wr.setCell ⟨w.heap.size, 0, none⟩ (.int .i64 (n0 : Int))).setCell ⟨w.heap.size, 1, none⟩ (.int .i64 (n1 : Int))) = Z at *
              obtain ⟨l0, l1, l2, l3, l4, m0, m1, m2, m3, m4⟩ := res5 hbz
              have HBZ := Lib.hid hbz
              have HAZ := Lib.hid hAz
              have b34' := b34
              generalize z3 ||| z4 = y at *
              clear hbz hAz
              refine wp_region_still_tail 11 (by kernel_rfl) (by kernel_rfl) ?_
              change wpStill _ _ (World.drew _) (fun a' => wpList _ _ _ _ a' (World.drew _)) _ _
              simp only [List.take_succ_cons, List.take_zero, List.drop_succ_cons, List.drop_zero]
              have l0' : Z.drew.cell? ⟨w.heap.size, 0, none⟩ = some (.int .i64 (n0 : Int)) := l0
              have l1' : Z.drew.cell? ⟨w.heap.size, 1, none⟩ = some (.int .i64 (n1 : Int)) := l1
              have l2' : Z.drew.cell? ⟨w.heap.size, 2, none⟩ = some (.int .i64 (z2 : Int)) := l2
              have m2' : Z.drew.frozen? ⟨w.heap.size, 2, none⟩ = false := m2
              clear l0 l1 l2 l3 l4 m0 m1 m2 m3 m4
              repeat still_step
              still_call (KA.out _)
              repeat still_step
              refine wpStill_nil ?_
              go_wp2
              exact ⟨⟨k + 1, [(n0 : Int), (n1 : Int), _, (z3 : Int), (z4 : Int)], by omega, by go_num, ⟨rfl, HBZ.out.set 2 _⟩, (HAZ.out.set ⟨w.heap.size, 2, none⟩ _ (.inr rfl)).drewN 1⟩, by simp [intOf]; omega⟩
    · have : k = 2 := by omega
      subst this
      have HA := Lib.hid hA
      clear hA hbk hbx
      go_wp2_with (go_at_call 17; refine (awake_any _).mono ?_; rintro e w6 ⟨rfl, hB6⟩; try dsimp only)
      go_ret
      exact ⟨rfl, (HA.out.below HBW.out HBW.out.size (fun k hk e => by omega)).trans (hB6.mono (Nat.le_trans HBW.out.size HA.out.size))⟩
end Go.Proofs.Ytfbobojpocnfeaa
