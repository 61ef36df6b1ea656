/- The reference's IsPlan: a walk. -/
import Derived.Test.YtfbobojpocnfeaaL8
import Derived.Test.YtfbobojpocnfeaaLp
namespace Go.Proofs.Ytfbobojpocnfeaa
open Go.RowKit Go.Shelf

theorem xor_out {a b : Nat} (h : Within b a) : a ^^^ b = ldiff a b := nat_ext fun i => by
  have := within_iff.1 h i
  rw [Nat.testBit_xor, testBit_ldiff]
  cases e1 : a.testBit i <;> cases e2 : b.testBit i <;> simp_all
theorem xor_in {g : List Nat} {a b : Nat} (h : Within b (ldiff (full g.length) a)) : a ^^^ b = a ||| b := nat_ext fun i => by
  have := within_iff.1 h i
  rw [testBit_ldiff] at this
  rw [Nat.testBit_xor, Nat.testBit_or]
  cases e1 : a.testBit i <;> cases e2 : b.testBit i <;> simp_all
theorem other_even {g : List Nat} {l x : Nat} (h : Within x l) : ldiff (ldiff (full g.length) (ldiff l x)) x = ldiff (ldiff (full g.length) l) x := nat_ext fun i => by
  have := within_iff.1 h i
  simp only [testBit_ldiff]
  cases e1 : l.testBit i <;> cases e2 : x.testBit i <;> cases e3 : (full g.length).testBit i <;> simp_all
theorem left_odd {g : List Nat} {l x : Nat} (h : Within x (ldiff (full g.length) l)) : ldiff l x = l := ldiff_disj fun i hi => by
  have := within_iff.1 h i hi
  rw [testBit_ldiff] at this
  simp at this; exact this.2
theorem tripB_neg {g : List Nat} {seats : Int} {s : St} {x : Int} (h : x < 0) : tripB g seats s x = false := by
  unfold tripB; rw [decide_eq_false (by omega)]; rfl
theorem tripB_out {g : List Nat} {seats : Int} {s : St} {x : Nat} (h : ¬ Within x (bank g s)) : tripB g seats s (x : Int) = false := by
  unfold tripB
  rw [Int.toNat_natCast, beq_eq_false_iff_ne.2 (fun e => h (ldiff_zero.1 e))]; simp
theorem tripB_big {g : List Nat} {seats : Int} {s : St} {x : Nat} (h : seats < (size x : Int)) : tripB g seats s (x : Int) = false := by
  unfold tripB
  rw [Int.toNat_natCast, decide_eq_false (show ¬ (size x : Int) ≤ seats by omega)]; simp
theorem tripB_in {g : List Nat} {seats : Int} {s : St} {x : Nat} (h : Within x (bank g s)) (h2 : (size x : Int) ≤ seats) : tripB g seats s (x : Int) = (quietB g (ldiff s.1 x) && quietB g (ldiff (ldiff (full g.length) s.1) x)) := by
  unfold tripB
  rw [Int.toNat_natCast, ldiff_zero.2 h, decide_eq_true h2, decide_eq_true (show (0 : Int) ≤ (x : Int) by omega)]; simp
set_option maxRecDepth 100000 in
set_option maxHeartbeats 2000000 in
theorem risPlan_any (a : Option Addr) (cap : Nat) (g : List Nat) (seats : Int) (pa : Option Addr) (xs : List Int) (pc : Nat) (w : World) (hl : g.length ≤ 10) (hsm : ∀ i : Nat, Sm (g[i]?.getD 0)) (hg : Sets w a g) (hx : Ints w pa xs) (hlx : xs.length ≤ 1099511627776) :
    Calls Try.prog 16 #[.slice a g.length cap, .int .i64 seats, .slice pa xs.length pc] w fun e w' => e = .returned (.bool (decide (xs.length % 2 = 1) && judgeB g seats (start g) xs)) ∧ w' = w := by
  have hfs : Sm (full g.length) := sm_full (by omega)
  have KQ : Hid (∀ s W, Sm s → W = w → Calls Try.prog 27 #[.slice a g.length cap, .int .i64 (s : Int)] W fun e w' => e = .returned (.bool (quietB g s)) ∧ w' = w) := fun s W hs hW => by rw [hW]; exact quiet_any a cap g s w (by omega) hs hsm hg
  have KA : Hid (∀ W, W = w → Calls Try.prog 23 #[.slice a g.length cap] W fun e w' => e = .returned (.int .i64 (full g.length)) ∧ w' = w) := fun W hW => by rw [hW]; exact all_any a g.length cap w (by omega)
  have KC : Hid (∀ (s : Nat) W, Sm s → W = w → Calls Try.prog 25 #[.int .i64 (s : Int)] W fun e w' => e = .returned (.int .i64 (size s)) ∧ w' = w) := fun s W hs hW => by rw [hW]; exact size_any s w hs
  have hfl := hfs.lt
  obtain ⟨f, hf⟩ : ∃ f, Hid (f = full g.length) := ⟨_, rfl⟩
  rw [← hf.out] at hfs KA hfl
  obtain ⟨n, hn⟩ : ∃ n, Hid (n = g.length) := ⟨_, rfl⟩
  rw [← hn.out] at KQ KA ⊢
  obtain ⟨len, hlen⟩ : ∃ len, Hid (len = xs.length) := ⟨_, rfl⟩
  rw [← hlen.out] at hlx ⊢
  have HX := Lib.hid hx
  clear hx hg hsm hl
  obtain ⟨R, hR⟩ : ∃ R, Hid (R = judgeB g seats (start g) xs) := ⟨_, rfl⟩
  rw [← hR.out]
  go_enter Try.func16, Try.ntmps16
  go_wp2_with (go_at_call 23; refine (KA.out _ rfl).mono ?_; rintro e w1 ⟨rfl, hw⟩; subst hw; try dsimp only)
  go_loop [8, 9, 10] (fun s8 s9 _ => ∃ (k : Nat) (s : St), k ≤ len ∧ s9 = .int .i64 k ∧ s8 = .int .i64 s.1 ∧ Hid (s.2 = decide (k % 2 = 1)) ∧ Hid (Within s.1 f) ∧ Hid (R = judgeB g seats s (xs.drop k))) (fun _ s9 _ => 2199023255552 - (intOf s9).toNat)
  case atStart => exact ⟨0, start g, Nat.zero_le _, rfl, by rw [hf.out]; rfl, rfl, by unfold Hid; rw [hf.out]; exact within_refl _, by unfold Hid; rw [hR.out]; rfl⟩
  case round =>
    obtain ⟨k, ⟨l, b⟩, hk, rfl, rfl, hb, hw, hj⟩ := hrel
    have hlF := hw.out
    simp only at hlF
    have hls : Sm l := Nat.lt_of_le_of_lt hlF.le hfs
    have HLF := Lib.hid hlF
    clear hlF
    by_cases hkl : k < len
    · obtain ⟨pb, po, rfl, hpb, hpc⟩ := HX.out (by intro e; have := hlen.out; rw [e] at this; simp at this; omega)
      have hcell := hpc k (by rw [← hlen.out]; exact hkl)
      have hdrop : xs.drop k = (xs[k]?.getD 0) :: xs.drop (k + 1) := by
        have : k < xs.length := by rw [← hlen.out]; exact hkl
        rw [List.drop_eq_getElem_cons this, List.getElem?_eq_getElem this]; rfl
      have hj2 := hj.out
      rw [hdrop] at hj2
      clear hdrop hpc hpb
      generalize xs[k]?.getD 0 = x at *
      have HJ : Hid (R = (tripB g seats (l, b) x && judgeB g seats (next (l, b) x.toNat) (xs.drop (k + 1)))) := hj2
      clear hj2
      have hki : ((k : Nat) : Int) < (len : Int) := by omega
      have hk0 : (0 : Int) ≤ ((k : Nat) : Int) := by omega
      have hkm : Hid (((k : Nat) : Int).tmod 2 = if b = true then 1 else 0) := by
        unfold Hid
        have hb' := hb.out
        simp only at hb'
        rw [Int.tmod_eq_emod_of_nonneg (by omega)]
        by_cases e : k % 2 = 1
        · rw [hb', decide_eq_true e]; simp; omega
        · rw [hb', decide_eq_false e]; simp; omega
      cases b
      · have ht0 : ((k : Nat) : Int).tmod 2 = 0 := hkm.out
        by_cases hx0 : x < 0
        · go_wp2
          go_ret
          exact ⟨ret_bool (by rw [HJ.out, tripB_neg hx0]; simp), rfl⟩
        · obtain ⟨xn, rfl⟩ := Int.eq_ofNat_of_zero_le (show 0 ≤ x by omega)
          have hbk : bank g (l, false) = l := rfl
          have HBK := Lib.hid hbk
          clear hbk
          have hbs : Sm l := hls
          by_cases h1 : f < xn
          · have HF : Hid (R = false) := by
              unfold Hid
              rw [HJ.out, tripB_out (fun hc => by
                rw [HBK.out] at hc
                have h7 := Nat.le_trans hc.le HLF.out.le
                omega)]; rfl
            go_wp2
            go_ret
            exact ⟨ret_bool (by rw [HF.out]; simp), rfl⟩
          · have hxs : Sm xn := Nat.lt_of_le_of_lt (show xn ≤ f by omega) hfs
            have hnl : ((xn : Nat) : Int) ≤ (f : Int) := by omega
            by_cases h2 : Within xn l
            · have hz : (((ldiff xn l : Nat) : Int) != 0) = false := by rw [ldiff_zero.2 h2]; rfl
              have HW2 := Lib.hid h2
              clear h2
              obtain ⟨zx, hzx⟩ : ∃ z, Hid (z = size xn) := ⟨_, rfl⟩
              have KCx := Lib.hid (KC.out xn _ hxs rfl)
              rw [← hzx.out] at KCx
              by_cases h3 : seats < (zx : Int)
              · have HF : Hid (R = false) := by
                  unfold Hid
                  rw [HJ.out, tripB_big (by rw [← hzx.out]; exact h3)]; rfl
                go_wp2_with (go_at_call 25; refine (KCx.out).mono ?_; rintro e w2 ⟨rfl, hw⟩; subst hw; try dsimp only)
                go_ret
                exact ⟨ret_bool (by rw [HF.out]; simp), rfl⟩
              · obtain ⟨q1, hq1⟩ : ∃ q, Hid (q = quietB g (ldiff l xn)) := ⟨_, rfl⟩
                obtain ⟨q2, hq2⟩ : ∃ q, Hid (q = quietB g (ldiff (ldiff f (ldiff l xn)) xn)) := ⟨_, rfl⟩
                have KQ1 := Lib.hid (KQ.out (ldiff l xn) _ (sm_ldiff _ hls) rfl)
                have KQ2 := Lib.hid (KQ.out (ldiff (ldiff f (ldiff l xn)) xn) _ (sm_ldiff _ (sm_ldiff _ hfs)) rfl)
                rw [← hq1.out] at KQ1
                rw [← hq2.out] at KQ2
                have HTR : Hid (R = (q1 && q2 && judgeB g seats (next (l, false) xn) (xs.drop (k + 1)))) := by
                  unfold Hid
                  have hWb : Within xn (bank g (l, false)) := by rw [HBK.out]; exact HW2.out
                  rw [HJ.out, tripB_in hWb (by rw [← hzx.out]; omega), hq1.out, hq2.out, hf.out, Int.toNat_natCast]
                  have hWf := HW2.out
                  rw [other_even hWf]
                have hd1 : Sm (ldiff l xn) := sm_ldiff _ hls
                have hd2 : Sm (ldiff f (ldiff l xn)) := sm_ldiff _ hfs
                cases q1
                · go_wp2_with (first
                    | (go_at_call 25; refine (KCx.out).mono ?_; rintro e w2 ⟨rfl, hw⟩; subst hw; try dsimp only)
                    | (go_at_call 27; with_reducible refine (KQ1.out).mono ?_; rintro e w2 ⟨rfl, hw⟩; subst hw; try dsimp only))
                  go_ret
                  exact ⟨ret_bool (by rw [HTR.out]; simp), rfl⟩
                · cases q2
                  · go_wp2_with (first
                      | (go_at_call 25; refine (KCx.out).mono ?_; rintro e w2 ⟨rfl, hw⟩; subst hw; try dsimp only)
                      | (go_at_call 27; with_reducible refine (KQ1.out).mono ?_; rintro e w2 ⟨rfl, hw⟩; subst hw; try dsimp only)
                      | (go_at_call 27; with_reducible refine (KQ2.out).mono ?_; rintro e w2 ⟨rfl, hw⟩; subst hw; try dsimp only))
                    go_ret
                    exact ⟨ret_bool (by rw [HTR.out]; simp), rfl⟩
                  · go_wp2_with (first
                      | (go_at_call 25; refine (KCx.out).mono ?_; rintro e w2 ⟨rfl, hw⟩; subst hw; try dsimp only)
                      | (go_at_call 27; with_reducible refine (KQ1.out).mono ?_; rintro e w2 ⟨rfl, hw⟩; subst hw; try dsimp only)
                      | (go_at_call 27; with_reducible refine (KQ2.out).mono ?_; rintro e w2 ⟨rfl, hw⟩; subst hw; try dsimp only))
                    refine ⟨⟨k + 1, next (l, false) xn, by omega, by go_num, ?_, ?_, ?_, ?_⟩, by simp [intOf]; omega⟩
                    · have hWf := HW2.out
                      skip
                      show Value.int .i64 _ = Value.int .i64 ((l ^^^ xn : Nat) : Int)
                      rw [xor_out hWf]
                    · have := hb.out
                      simp only at this
                      show (!false) = decide ((k + 1) % 2 = 1)
                      have e : ¬ k % 2 = 1 := by intro h; rw [decide_eq_true h] at this; cases this
                      rw [decide_eq_true (by omega)]; rfl
                    · have hWb : Within xn (bank g (l, false)) := by rw [HBK.out]; exact HW2.out
                      have := next_within (g := g) (seats := size xn) (s := (l, false)) (p := xn)
                      refine within_iff.2 fun i hi => ?_
                      have h1' := within_iff.1 HLF.out i
                      have h2' := within_iff.1 HW2.out i
                      skip
                      unfold next at hi
                      simp only [Nat.testBit_xor] at hi
                      cases e1 : l.testBit i <;> cases e2 : xn.testBit i <;> simp_all
                    · unfold Hid; rw [HTR.out]; rfl
            · have hz : (((ldiff xn l : Nat) : Int) != 0) = true := by rw [bne_iff_ne]; intro h; exact h2 (ldiff_zero.1 (by omega))
              have HF : Hid (R = false) := by
                unfold Hid
                rw [HJ.out, tripB_out (fun hc => h2 (by rw [HBK.out] at hc; exact hc))]; rfl
              clear h2
              go_wp2
              go_ret
              exact ⟨ret_bool (by rw [HF.out]; simp), rfl⟩
      · have ht0 : ((k : Nat) : Int).tmod 2 = 1 := hkm.out
        by_cases hx0 : x < 0
        · go_wp2
          go_ret
          exact ⟨ret_bool (by rw [HJ.out, tripB_neg hx0]; simp), rfl⟩
        · obtain ⟨xn, rfl⟩ := Int.eq_ofNat_of_zero_le (show 0 ≤ x by omega)
          have hbk : bank g (l, true) = (ldiff f l) := by rw [hf.out]; rfl
          have HBK := Lib.hid hbk
          clear hbk
          have hbs : Sm (ldiff f l) := sm_ldiff _ hfs
          by_cases h1 : f < xn
          · have HF : Hid (R = false) := by
              unfold Hid
              rw [HJ.out, tripB_out (fun hc => by
                rw [HBK.out] at hc
                have h7 := Nat.le_trans hc.le (ldiff_le _ _)
                omega)]; rfl
            go_wp2
            go_ret
            exact ⟨ret_bool (by rw [HF.out]; simp), rfl⟩
          · have hxs : Sm xn := Nat.lt_of_le_of_lt (show xn ≤ f by omega) hfs
            have hnl : ((xn : Nat) : Int) ≤ (f : Int) := by omega
            by_cases h2 : Within xn (ldiff f l)
            · have hz : (((ldiff xn (ldiff f l) : Nat) : Int) != 0) = false := by rw [ldiff_zero.2 h2]; rfl
              have HW2 := Lib.hid h2
              clear h2
              obtain ⟨zx, hzx⟩ : ∃ z, Hid (z = size xn) := ⟨_, rfl⟩
              have KCx := Lib.hid (KC.out xn _ hxs rfl)
              rw [← hzx.out] at KCx
              by_cases h3 : seats < (zx : Int)
              · have HF : Hid (R = false) := by
                  unfold Hid
                  rw [HJ.out, tripB_big (by rw [← hzx.out]; exact h3)]; rfl
                go_wp2_with (go_at_call 25; refine (KCx.out).mono ?_; rintro e w2 ⟨rfl, hw⟩; subst hw; try dsimp only)
                go_ret
                exact ⟨ret_bool (by rw [HF.out]; simp), rfl⟩
              · obtain ⟨q1, hq1⟩ : ∃ q, Hid (q = quietB g l) := ⟨_, rfl⟩
                obtain ⟨q2, hq2⟩ : ∃ q, Hid (q = quietB g (ldiff (ldiff f l) xn)) := ⟨_, rfl⟩
                have KQ1 := Lib.hid (KQ.out l _ hls rfl)
                have KQ2 := Lib.hid (KQ.out (ldiff (ldiff f l) xn) _ (sm_ldiff _ (sm_ldiff _ hfs)) rfl)
                rw [← hq1.out] at KQ1
                rw [← hq2.out] at KQ2
                have HTR : Hid (R = (q1 && q2 && judgeB g seats (next (l, true) xn) (xs.drop (k + 1)))) := by
                  unfold Hid
                  have hWb : Within xn (bank g (l, true)) := by rw [HBK.out]; exact HW2.out
                  rw [HJ.out, tripB_in hWb (by rw [← hzx.out]; omega), hq1.out, hq2.out, hf.out, Int.toNat_natCast]
                  have hWf := HW2.out
                  rw [hf.out] at hWf
                  rw [left_odd hWf]
                have hd1 : Sm (ldiff l xn) := sm_ldiff _ hls
                have hd2 : Sm (ldiff f l) := sm_ldiff _ hfs
                cases q1
                · go_wp2_with (first
                    | (go_at_call 25; refine (KCx.out).mono ?_; rintro e w2 ⟨rfl, hw⟩; subst hw; try dsimp only)
                    | (go_at_call 27; with_reducible refine (KQ1.out).mono ?_; rintro e w2 ⟨rfl, hw⟩; subst hw; try dsimp only))
                  go_ret
                  exact ⟨ret_bool (by rw [HTR.out]; simp), rfl⟩
                · cases q2
                  · go_wp2_with (first
                      | (go_at_call 25; refine (KCx.out).mono ?_; rintro e w2 ⟨rfl, hw⟩; subst hw; try dsimp only)
                      | (go_at_call 27; with_reducible refine (KQ1.out).mono ?_; rintro e w2 ⟨rfl, hw⟩; subst hw; try dsimp only)
                      | (go_at_call 27; with_reducible refine (KQ2.out).mono ?_; rintro e w2 ⟨rfl, hw⟩; subst hw; try dsimp only))
                    go_ret
                    exact ⟨ret_bool (by rw [HTR.out]; simp), rfl⟩
                  · go_wp2_with (first
                      | (go_at_call 25; refine (KCx.out).mono ?_; rintro e w2 ⟨rfl, hw⟩; subst hw; try dsimp only)
                      | (go_at_call 27; with_reducible refine (KQ1.out).mono ?_; rintro e w2 ⟨rfl, hw⟩; subst hw; try dsimp only)
                      | (go_at_call 27; with_reducible refine (KQ2.out).mono ?_; rintro e w2 ⟨rfl, hw⟩; subst hw; try dsimp only))
                    refine ⟨⟨k + 1, next (l, true) xn, by omega, by go_num, ?_, ?_, ?_, ?_⟩, by simp [intOf]; omega⟩
                    · have hWf := HW2.out
                      rw [hf.out] at hWf
                      show Value.int .i64 _ = Value.int .i64 ((l ^^^ xn : Nat) : Int)
                      rw [xor_in hWf]
                    · have := hb.out
                      simp only at this
                      show (!true) = decide ((k + 1) % 2 = 1)
                      have e : k % 2 = 1 := by simpa using this.symm
                      rw [decide_eq_false (by omega)]; rfl
                    · have hWb : Within xn (bank g (l, true)) := by rw [HBK.out]; exact HW2.out
                      have := next_within (g := g) (seats := size xn) (s := (l, true)) (p := xn)
                      refine within_iff.2 fun i hi => ?_
                      have h1' := within_iff.1 HLF.out i
                      have h2' := within_iff.1 HW2.out i
                      rw [testBit_ldiff] at h2'
                      unfold next at hi
                      simp only [Nat.testBit_xor] at hi
                      cases e1 : l.testBit i <;> cases e2 : xn.testBit i <;> simp_all
                    · unfold Hid; rw [HTR.out]; rfl
            · have hz : (((ldiff xn (ldiff f l) : Nat) : Int) != 0) = true := by rw [bne_iff_ne]; intro h; exact h2 (ldiff_zero.1 (by omega))
              have HF : Hid (R = false) := by
                unfold Hid
                rw [HJ.out, tripB_out (fun hc => h2 (by rw [HBK.out] at hc; exact hc))]; rfl
              clear h2
              go_wp2
              go_ret
              exact ⟨ret_bool (by rw [HF.out]; simp), rfl⟩
    · have hkl2 : k = len := by omega
      subst hkl2
      have hjj : R = (l == 0) := by
        rw [hj.out, hlen.out, List.drop_length]; rfl
      have HJJ := Lib.hid hjj
      clear hjj
      have htm : ((k : Nat) : Int).tmod 2 = ((k % 2 : Nat) : Int) := by rw [Int.tmod_eq_emod_of_nonneg (by omega)]; omega
      by_cases ho : k % 2 = 1
      · have ht1 : ((k : Nat) : Int).tmod 2 = 1 := by rw [htm]; omega
        have HO := Lib.hid ho
        clear htm ho
        go_wp2
        go_ret
        exact ⟨ret_bool (by rw [HJJ.out, decide_eq_true HO.out]; cases l <;> rfl), rfl⟩
      · have ht1 : ((k : Nat) : Int).tmod 2 = 0 := by rw [htm]; omega
        have HO := Lib.hid ho
        clear htm ho
        go_wp2
        go_ret
        exact ⟨ret_bool (by rw [decide_eq_false HO.out]; rfl), rfl⟩
end Go.Proofs.Ytfbobojpocnfeaa
