/- FerryCovers: the reference's cover and the law: walks. -/
import Derived.Test.YtfbobojpocnfeaaCp
import Derived.Test.YtfbobojpocnfeaaTo
namespace Go.Proofs.Ytfbobojpocnfeaa
open Go.RowKit Go.Shelf

set_option maxHeartbeats 1000000 in
theorem rcover_any (a : Option Addr) (cap : Nat) (g : List Nat) (w : World) (hl : g.length ≤ 10) (hsm : ∀ i : Nat, Sm (g[i]?.getD 0)) (hg : Sets w a g) :
    Calls Try.prog 28 #[.slice a g.length cap] w fun e w' => e = .returned (.int .i64 (rcF g : Nat)) ∧ w' = w := by
  have hfs : Sm (full g.length) := sm_full (by omega)
  have KA : Hid (∀ W, W = w → Calls Try.prog 23 #[.slice a g.length cap] W fun e w' => e = .returned (.int .i64 (full g.length)) ∧ w' = w) := fun W hW => by rw [hW]; exact all_any a g.length cap w (by omega)
  have KQ : Hid (∀ s W, Sm s → W = w → Calls Try.prog 27 #[.slice a g.length cap, .int .i64 (s : Int)] W fun e w' => e = .returned (.bool (quietB g s)) ∧ w' = w) := fun s W hs hW => by rw [hW]; exact quiet_any a cap g s w (by omega) hs hsm hg
  have HR : Hid (rcF g = (List.range (full g.length)).foldl (rcStep g) (full g.length)) := rfl
  obtain ⟨f, hf⟩ : ∃ f, Hid (f = full g.length) := ⟨_, rfl⟩
  rw [← hf.out] at KA HR hfs
  have HST : Hid (∀ b s, rcStep g b s = if quietB g (ldiff f s) = true ∧ size s < size b then s else b) := fun b s => by rw [hf.out]; rfl
  generalize rcF g = r at *
  generalize g.length = n at *
  clear hg hsm hl
  have hfl := hfs.lt
  go_enter Try.func28, Try.ntmps28
  go_wp2_with (go_at_call 23; refine (KA.out _ rfl).mono ?_; rintro e w1 ⟨rfl, hw⟩; subst hw; try dsimp only)
  go_loop [3, 4] (fun s3 s4 => ∃ k b : Nat, k ≤ f ∧ s4 = .int .i64 k ∧ s3 = .int .i64 b ∧ Sm b ∧ Hid (b = (List.range k).foldl (rcStep g) f)) (fun _ s4 => f - (intOf s4).toNat)
  case atStart => exact ⟨0, f, Nat.zero_le _, rfl, rfl, hfs, rfl⟩
  case round =>
    obtain ⟨k, b, hk, rfl, rfl, hb, hfold⟩ := hrel
    by_cases hkf : k < f
    · have hks : Sm k := Nat.lt_trans hkf hfs
      have hnx : (List.range (k + 1)).foldl (rcStep g) f = rcStep g b k := by rw [List.range_succ, List.foldl_append, ← hfold.out]; rfl
      rw [HST.out] at hnx
      have HNX := Lib.hid hnx
      have KQ2 := Lib.hid (KQ.out (ldiff f k) _ (sm_ldiff _ hfs) rfl)
      clear hnx
      obtain ⟨q, hq⟩ : ∃ q, Hid (q = quietB g (ldiff f k)) := ⟨_, rfl⟩
      rw [← hq.out] at HNX KQ2
      have KC1 := Lib.hid (size_any k w1 hks)
      have KC2 := Lib.hid (size_any b w1 hb)
      obtain ⟨zk, hzk⟩ : ∃ z, Hid (z = size k) := ⟨_, rfl⟩
      obtain ⟨zb, hzb⟩ : ∃ z, Hid (z = size b) := ⟨_, rfl⟩
      rw [← hzk.out] at HNX KC1
      rw [← hzb.out] at HNX KC2
      have hkfi : ((k : Nat) : Int) < (f : Int) := by omega
      cases q
      · go_wp2_with (first
          | (go_at_call 23; refine (KA.out _ rfl).mono ?_; rintro e w2 ⟨rfl, hw⟩; subst hw; try dsimp only)
          | (go_at_call 27; refine (KQ2.out).mono ?_; rintro e w2 ⟨rfl, hw⟩; subst hw; try dsimp only))
        exact ⟨⟨k + 1, b, by omega, by go_num, rfl, hb, by rw [Hid, HNX.out, if_neg (by simp)]⟩, by simp [intOf]; omega⟩
      · by_cases hz : zk < zb
        · go_wp2_with (first
            | (go_at_call 23; refine (KA.out _ rfl).mono ?_; rintro e w2 ⟨rfl, hw⟩; subst hw; try dsimp only)
            | (go_at_call 27; refine (KQ2.out).mono ?_; rintro e w2 ⟨rfl, hw⟩; subst hw; try dsimp only)
            | (go_at_call 25; with_reducible refine (KC1.out).mono ?_; rintro e w2 ⟨rfl, hw⟩; subst hw; try dsimp only)
            | (go_at_call 25; with_reducible refine (KC2.out).mono ?_; rintro e w2 ⟨rfl, hw⟩; subst hw; try dsimp only))
          exact ⟨⟨k + 1, k, by omega, by go_num, rfl, hks, by rw [Hid, HNX.out, if_pos ⟨rfl, hz⟩]⟩, by simp [intOf]; omega⟩
        · go_wp2_with (first
            | (go_at_call 23; refine (KA.out _ rfl).mono ?_; rintro e w2 ⟨rfl, hw⟩; subst hw; try dsimp only)
            | (go_at_call 27; refine (KQ2.out).mono ?_; rintro e w2 ⟨rfl, hw⟩; subst hw; try dsimp only)
            | (go_at_call 25; with_reducible refine (KC1.out).mono ?_; rintro e w2 ⟨rfl, hw⟩; subst hw; try dsimp only)
            | (go_at_call 25; with_reducible refine (KC2.out).mono ?_; rintro e w2 ⟨rfl, hw⟩; subst hw; try dsimp only))
          exact ⟨⟨k + 1, b, by omega, by go_num, rfl, hb, by rw [Hid, HNX.out, if_neg (fun h => hz h.2)]⟩, by simp [intOf]; omega⟩
    · go_wp2_with (go_at_call 23; refine (KA.out _ rfl).mono ?_; rintro e w2 ⟨rfl, hw⟩; subst hw; try dsimp only)
      have : k = f := by omega
      subst this
      go_ret
      exact ⟨ret_int (by rw [HR.out, hfold.out]), rfl⟩
theorem Sets.below {W W' : World} {a : Option Addr} {g : List Nat} (h : Sets W a g) (hB : Below W.heap.size W W') : Sets W' a g := by
  obtain ⟨b, off, e, hb, hc⟩ := h
  exact ⟨b, off, e, Nat.lt_of_lt_of_le hb hB.size, fun j hj => (hB.cell (p := ⟨b, off + j, none⟩) hb).trans (hc j hj)⟩
set_option maxRecDepth 100000 in
set_option maxHeartbeats 1000000 in
theorem law8 (n : Int) (a : Option Addr) (cap : Nat) (ps : List (Int × Int)) (set : Int) (w : World) (h : PairsIn w a cap ps) (_ : (Lit.int .i64 n).wf = true) (_ : (Lit.int .i64 set).wf = true) :
    Calls Try.prog 8 #[.int .i64 n, .slice a ps.length cap, .int .i64 set] w fun e w' => e = .returned (.bool true) ∧ Below w.heap.size w w' := by
  have HT := Lib.hid (tame_any n a cap ps 10 w h (by decide) (by decide))
  clear h
  generalize ps.length = len at *
  go_enter Try.func8, Try.ntmps8
  go_wp2_with (first
    | (go_at_call 10; refine (HT.out).mono ?_; rintro e w1 ⟨m, qs, a1, c1, rfl, hm, hG, hB1⟩; have HG := Lib.hid hG; have HB1 := Lib.hid hB1; clear hG hB1; try dsimp only)
    | (go_at_call 11; refine (of_any m a1 c1 qs w1 HG.out).mono ?_; rintro e w2 ⟨b, rfl, hb, hS, hB2⟩; have HS := Lib.hid hS; have HB2 := Lib.hid hB2; clear hS hB2; try dsimp only))
  have hGl : (ofE m qs).length = m := ofE_length m qs
  have hsm := ofE_sm HG.out.n2 HG.out.ok
  have hm2 := HG.out.n2
  have hBW := HB1.out.trans (HB2.out.mono HB1.out.size)
  have KG : Hid (∀ W, Below w2.heap.size w2 W → Good m qs a1 W ∧ Sets W (some ⟨b, 0, none⟩) (ofE m qs)) := fun W hB => ⟨(HG.out.below HB2.out).below hB, HS.out.below hB⟩
  have HBW := Lib.hid hBW
  clear HG HB1 HB2 HS hBW
  have KI : Hid (∀ W (z : Int), Below w2.heap.size w2 W → (z < 0 ∨ (full m : Int) < z) → Calls Try.prog 26 #[.int .i64 m, .slice a1 qs.length c1, .int .i64 z] W fun e w' => e = .returned (.tuple #[.bool false, .int .i64 1]) ∧ Below W.heap.size W w') := fun W z hB hz => isQuiet_out m qs a1 c1 W (KG.out W hB).1 z hz
  have KJ : Hid (∀ W (z : Nat), Below w2.heap.size w2 W → z ≤ full m → Calls Try.prog 26 #[.int .i64 m, .slice a1 qs.length c1, .int .i64 (z : Int)] W fun e w' => e = .returned (.tuple #[.bool (quietB (ofE m qs) z), .int .i64 0]) ∧ Below W.heap.size W w') := fun W z hB hz => isQuiet_ok m qs a1 c1 W (KG.out W hB).1 z hz
  have KA : Hid (∀ W, Calls Try.prog 23 #[.slice (some ⟨b, 0, none⟩) m m] W fun e w' => e = .returned (.int .i64 (full m)) ∧ w' = W) := fun W => all_any _ m m W (by omega)
  have KR : Hid (∀ W (z : Nat), Below w2.heap.size w2 W → Sm z → Calls Try.prog 27 #[.slice (some ⟨b, 0, none⟩) m m, .int .i64 (z : Int)] W fun e w' => e = .returned (.bool (quietB (ofE m qs) z)) ∧ w' = W) := fun W z hB hz => by
    have := quiet_any (some ⟨b, 0, none⟩) m (ofE m qs) z W (by omega) hz hsm (KG.out W hB).2
    rw [hGl] at this; exact this
  have KC : Hid (∀ W, Below w2.heap.size w2 W → Calls Try.prog 24 #[.int .i64 m, .slice a1 qs.length c1] W fun e w' => e = .returned (.tuple #[.int .i64 (coverF (ofE m qs)), .int .i64 0]) ∧ Below W.heap.size W w') := fun W hB => cover_ok m qs a1 c1 W (KG.out W hB).1
  have KD : Hid (∀ W, Below w2.heap.size w2 W → Calls Try.prog 28 #[.slice (some ⟨b, 0, none⟩) m m] W fun e w' => e = .returned (.int .i64 (coverF (ofE m qs) : Nat)) ∧ w' = W) := fun W hB => by
    have := rcover_any (some ⟨b, 0, none⟩) m (ofE m qs) W (by omega) hsm (KG.out W hB).2
    rw [hGl, ← cover_same _ (by omega)] at this; exact this
  have hfs : Sm (full m) := sm_full (by omega)
  have hfl := hfs.lt
  clear hsm hGl
  generalize coverF (ofE m qs) = cv at *
  generalize quietB (ofE m qs) = qu at *
  generalize qs.length = ql at *
  have hum : ∀ z, um z (full m + 1) < full m + 1 := fun z => um_lt z (by omega)
  have HUM := Lib.hid hum
  clear hum
  go_loopw [2, 9, 10, 11] (fun s2 s9 _ _ wr => ∃ (k : Nat) (z : Int), k ≤ 2 ∧ s9 = .int .i64 k ∧ s2 = .int .i64 z ∧ Below w2.heap.size w2 wr) (fun _ s9 _ _ _ => 2 - (intOf s9).toNat)
  case atStart => exact ⟨0, set, by omega, rfl, rfl, Below.refl _ _⟩
  case round =>
    obtain ⟨k, z, hk, rfl, rfl, hB⟩ := hrel
    by_cases hk2 : k < 2
    · have eu : IntKind.u64.wrap ((full m : Int) + 1) = ((full m + 1 : Nat) : Int) := by rw [IntWalk.u64_in _ (by omega)]; omega
      have em : wrap64 ((IntKind.u64.wrap z).tmod ((full m + 1 : Nat) : Int)) = ((um z (full m + 1) : Nat) : Int) := by
        have := HUM.out z
        rw [um_eq, IntWalk.wrap64_in _ (by omega)]
      by_cases hz : z < 0 ∨ (full m : Int) < z
      · have HZ := Lib.hid hz
        go_wp2_with (first
          | (go_at_call 26; refine (KI.out _ z hB HZ.out).mono ?_; rintro e w3 ⟨rfl, hB3⟩; have HB3 := Lib.hid hB3; clear hB3; try dsimp only)
          | (go_at_call 23; refine (KA.out _).mono ?_; rintro e w4 ⟨rfl, hw⟩; subst hw; try dsimp only))
        all_goals exact ⟨⟨k + 1, _, by omega, by go_num, rfl, hB.trans (HB3.out.mono hB.size)⟩, by simp [intOf]; omega⟩
      · obtain ⟨zn, rfl⟩ := Int.eq_ofNat_of_zero_le (show 0 ≤ z by omega)
        have hzf : zn ≤ full m := by omega
        have hzs : Sm zn := Nat.lt_of_le_of_lt hzf hfs
        have KJ2 := Lib.hid (KJ.out _ zn hB hzf)
        have KR2 := Lib.hid (fun W hW => KR.out W zn hW hzs)
        clear hz
        generalize qu zn = q at *
        cases q
        all_goals
          go_wp2_with (first
            | (go_at_call 26; refine (KJ2.out).mono ?_; rintro e w3 ⟨rfl, hB3⟩; have HB3 := Lib.hid (hB.trans (hB3.mono hB.size)); clear hB3; try dsimp only)
            | (go_at_call 23; refine (KA.out _).mono ?_; rintro e w4 ⟨rfl, hw⟩; subst hw; try dsimp only)
            | (go_at_call 27; refine (KR2.out _ HB3.out).mono ?_; rintro e w5 ⟨rfl, hw⟩; subst hw; try dsimp only))
          exact ⟨⟨k + 1, _, by omega, by go_num, rfl, HB3.out⟩, by simp [intOf]; omega⟩
    · have : k = 2 := by omega
      subst this
      have HBr := Lib.hid hB
      clear hB
      go_wp2_with (first
        | (go_at_call 24; refine (KC.out _ HBr.out).mono ?_; rintro e w3 ⟨rfl, hB3⟩; have HB3 := Lib.hid (HBr.out.trans (hB3.mono HBr.out.size)); clear hB3; try dsimp only)
        | (go_at_call 28; refine (KD.out _ HB3.out).mono ?_; rintro e w5 ⟨rfl, hw⟩; subst hw; try dsimp only)
        | (go_at_call 17; refine (awake_any _).mono ?_; rintro e w6 ⟨rfl, hB6⟩; try dsimp only))
      go_ret
      exact ⟨rfl, HBW.out.trans ((HB3.out.trans (hB6.mono HB3.out.size)).mono HBW.out.size)⟩
end Go.Proofs.Ytfbobojpocnfeaa
