/- The reference's HasStructure: a walk. -/
import Derived.Test.YtfbobojpocnfeaaHs
import Derived.Test.YtfbobojpocnfeaaRi
namespace Go.Proofs.Ytfbobojpocnfeaa
open Go.RowKit Go.Shelf

set_option maxRecDepth 100000 in
set_option maxHeartbeats 2000000 in
theorem has_any (a : Option Addr) (cap : Nat) (g : List Nat) (seats : Int) (w : World) (hl : g.length ≤ 10) (hl1 : 1 ≤ g.length) (hsm : ∀ i : Nat, Sm (g[i]?.getD 0)) (hg : Sets w a g) :
    ∃ q : Bool, Hid (q = true ↔ HasS g seats) ∧ Calls Try.prog 20 #[.slice a g.length cap, .int .i64 seats] w fun e w' => e = .returned (.bool q) ∧ w' = w := by
  obtain ⟨q, hq⟩ : ∃ q : Bool, Hid (q = true ↔ HasS g seats) := by
    by_cases h : HasS g seats
    · exact ⟨true, iff_of_true rfl h⟩
    · exact ⟨false, iff_of_false (by simp) h⟩
  refine ⟨q, hq, ?_⟩
  have hfs : Sm (full g.length) := sm_full (by omega)
  have KQ : Hid (∀ s W, Sm s → W = w → Calls Try.prog 27 #[.slice a g.length cap, .int .i64 (s : Int)] W fun e w' => e = .returned (.bool (quietB g s)) ∧ w' = w) := fun s W hs hW => by rw [hW]; exact quiet_any a cap g s w (by omega) hs hsm hg
  have KA : Hid (∀ W, W = w → Calls Try.prog 23 #[.slice a g.length cap] W fun e w' => e = .returned (.int .i64 (full g.length)) ∧ w' = w) := fun W hW => by rw [hW]; exact all_any a g.length cap w (by omega)
  have KC : Hid (∀ (s : Nat) W, Sm s → W = w → Calls Try.prog 25 #[.int .i64 (s : Int)] W fun e w' => e = .returned (.int .i64 (size s)) ∧ w' = w) := fun s W hs hW => by rw [hW]; exact size_any s w hs
  obtain ⟨b0, off, rfl, hb, hc⟩ := hg
  have HC : Hid (∀ j, j < g.length → w.cell? ⟨b0, off + j, none⟩ = some (.int .i64 ((nb g j : Nat) : Int))) := hc
  have HSM : Hid (∀ i : Nat, Sm (nb g i)) := hsm
  clear hc hsm
  obtain ⟨f, hf⟩ : ∃ f, Hid (f = full g.length) := ⟨_, rfl⟩
  have hf1 : 1 ≤ f := by
    rw [hf.out]; unfold full
    have : 2 ^ 1 ≤ 2 ^ g.length := Nat.pow_le_pow_right (by decide) hl1
    omega
  have H0 : Hid (HasS g seats ↔ ∃ y, 1 ≤ y ∧ y ≤ f ∧ HS1 g seats y) := by rw [hf.out]; exact Iff.rfl
  have H1 : Hid (∀ y, HS1 g seats y ↔ (size y : Int) ≤ seats ∧ quietB g (ldiff f y) = true ∧ ∃ a, 1 ≤ a ∧ a ≤ f ∧ HS2 g y a) := fun y => by rw [hf.out]; exact Iff.rfl
  have H2 : Hid (∀ y a, HS2 g y a ↔ Within a y ∧ quietB g a = true ∧ ∃ b, a ≤ b ∧ b ≤ f ∧ HS3 g y a b) := fun y a => by rw [hf.out]; exact Iff.rfl
  have H3 : Hid (∀ y a b, HS3 g y a b ↔ Within b y ∧ quietB g b = true ∧ thirdTo g (ldiff f y) a b g.length ≤ size a + size b) := fun y a b => by rw [hf.out]; exact Iff.rfl
  rw [← hf.out] at hfs KA
  obtain ⟨n, hn⟩ : ∃ n, Hid (n = g.length) := ⟨_, rfl⟩
  rw [← hn.out] at hl hl1 KQ KA HC H3 ⊢
  clear hf
  have hfl := hfs.lt
  go_enter Try.func20, Try.ntmps20
  go_wp2_with (go_at_call 23; refine (KA.out _ rfl).mono ?_; rintro e w1 ⟨rfl, hw⟩; subst hw; try dsimp only)
  go_loop [6, 7, 8, 9, 10] (fun s6 _ _ _ _ => ∃ y : Nat, 1 ≤ y ∧ y ≤ f + 1 ∧ s6 = .int .i64 y ∧ Hid (∀ z, 1 ≤ z → z < y → ¬ HS1 g seats z)) (fun s6 _ _ _ _ => f + 1 - (intOf s6).toNat)
  case atStart => exact ⟨1, by omega, by omega, rfl, fun z h1 h2 => by omega⟩
  case round =>
    obtain ⟨y, hy1, hy2, rfl, hyn⟩ := hrel
    by_cases hyf : y ≤ f
    · have hys : Sm y := Nat.lt_of_le_of_lt hyf hfs
      have hyfi : ((y : Nat) : Int) ≤ (f : Int) := by omega
      have hnext : ¬ HS1 g seats y → Hid (∀ z, 1 ≤ z → z < y + 1 → ¬ HS1 g seats z) := fun h z h1 h2 => by
        by_cases e : z = y
        · subst e; exact h
        · exact hyn.out z h1 (by omega)
      have HNY := Lib.hid hnext
      clear hnext
      have hdy := sm_ldiff y hfs
      obtain ⟨zy, hzy⟩ : ∃ z, Hid (z = size y) := ⟨_, rfl⟩
      obtain ⟨qy, hqy⟩ : ∃ z, Hid (z = quietB g (ldiff f y)) := ⟨_, rfl⟩
      have KCy := Lib.hid (KC.out y _ hys rfl)
      have KQy := Lib.hid (KQ.out (ldiff f y) _ hdy rfl)
      rw [← hzy.out] at KCy
      rw [← hqy.out] at KQy
      have G1 := Lib.hid (H1.out y)
      rw [← hzy.out, ← hqy.out] at G1
      by_cases hc1 : seats < (zy : Int)
      · go_wp2_with (first
          | (go_at_call 25; refine (KCy.out).mono ?_; rintro e w2 ⟨rfl, hw⟩; subst hw; try dsimp only))
        exact ⟨⟨y + 1, by omega, by omega, by go_num, HNY.out (fun h => by have := (G1.out.1 h).1; omega)⟩, by simp [intOf]; omega⟩
      · cases qy
        · go_wp2_with (first
            | (go_at_call 25; refine (KCy.out).mono ?_; rintro e w2 ⟨rfl, hw⟩; subst hw; try dsimp only)
            | (go_at_call 27; refine (KQy.out).mono ?_; rintro e w2 ⟨rfl, hw⟩; subst hw; try dsimp only))
          exact ⟨⟨y + 1, by omega, by omega, by go_num, HNY.out (fun h => by have := (G1.out.1 h).2.1; cases this)⟩, by simp [intOf]; omega⟩
        · go_wp2_with (first
            | (go_at_call 25; refine (KCy.out).mono ?_; rintro e w2 ⟨rfl, hw⟩; subst hw; try dsimp only)
            | (go_at_call 27; refine (KQy.out).mono ?_; rintro e w2 ⟨rfl, hw⟩; subst hw; try dsimp only))
          go_loop [7, 8, 9, 10] (fun s7 _ _ _ => ∃ x : Nat, 1 ≤ x ∧ x ≤ f + 1 ∧ s7 = .int .i64 x ∧ Hid (∀ z, 1 ≤ z → z < x → ¬ HS2 g y z)) (fun s7 _ _ _ => f + 1 - (intOf s7).toNat)
          case atStart => exact ⟨1, by omega, by omega, rfl, fun z h1 h2 => by omega⟩
          case round =>
            obtain ⟨x, hx1, hx2, rfl, hxn⟩ := hrel
            by_cases hxf : x ≤ f
            · have hxs : Sm x := Nat.lt_of_le_of_lt hxf hfs
              have hxfi : ((x : Nat) : Int) ≤ (f : Int) := by omega
              have hnext : ¬ HS2 g y x → Hid (∀ z, 1 ≤ z → z < x + 1 → ¬ HS2 g y z) := fun h z h1 h2 => by
                by_cases e : z = x
                · subst e; exact h
                · exact hxn.out z h1 (by omega)
              have HNX := Lib.hid hnext
              clear hnext
              obtain ⟨qx, hqx⟩ : ∃ z, Hid (z = quietB g x) := ⟨_, rfl⟩
              have KQx := Lib.hid (KQ.out x _ hxs rfl)
              rw [← hqx.out] at KQx
              have G2 := Lib.hid (H2.out y x)
              rw [← hqx.out] at G2
              by_cases hw : Within x y
              · have hz : (((ldiff x y : Nat) : Int) != 0) = false := by rw [ldiff_zero.2 hw]; rfl
                have HW := Lib.hid hw
                clear hw
                cases qx
                · go_wp2_with (first
                    | (go_at_call 27; refine (KQx.out).mono ?_; rintro e w3 ⟨rfl, hw⟩; subst hw; try dsimp only))
                  exact ⟨⟨x + 1, by omega, by omega, by go_num, HNX.out (fun h => by have := (G2.out.1 h).2.1; cases this)⟩, by simp [intOf]; omega⟩
                · go_wp2_with (first
                    | (go_at_call 27; refine (KQx.out).mono ?_; rintro e w3 ⟨rfl, hw⟩; subst hw; try dsimp only))
                  go_loop [8, 9, 10] (fun s8 _ _ => ∃ v : Nat, x ≤ v ∧ v ≤ f + 1 ∧ s8 = .int .i64 v ∧ Hid (∀ z, x ≤ z → z < v → ¬ HS3 g y x z)) (fun s8 _ _ => f + 1 - (intOf s8).toNat)
                  case atStart => exact ⟨x, by omega, by omega, rfl, fun z h1 h2 => by omega⟩
                  case round =>
                    obtain ⟨v, hv1, hv2, rfl, hvn⟩ := hrel
                    by_cases hvf : v ≤ f
                    · have hvs : Sm v := Nat.lt_of_le_of_lt hvf hfs
                      have hvfi : ((v : Nat) : Int) ≤ (f : Int) := by omega
                      have hnext : ¬ HS3 g y x v → Hid (∀ z, x ≤ z → z < v + 1 → ¬ HS3 g y x z) := fun h z h1 h2 => by
                        by_cases e : z = v
                        · subst e; exact h
                        · exact hvn.out z h1 (by omega)
                      have HNV := Lib.hid hnext
                      clear hnext
                      obtain ⟨qv, hqv⟩ : ∃ z, Hid (z = quietB g v) := ⟨_, rfl⟩
                      have KQv := Lib.hid (KQ.out v _ hvs rfl)
                      rw [← hqv.out] at KQv
                      have G3 := Lib.hid (H3.out y x v)
                      rw [← hqv.out] at G3
                      by_cases hw2 : Within v y
                      · have hz2 : (((ldiff v y : Nat) : Int) != 0) = false := by rw [ldiff_zero.2 hw2]; rfl
                        have HW2 := Lib.hid hw2
                        clear hw2
                        cases qv
                        · go_wp2_with (first
                            | (go_at_call 27; refine (KQv.out).mono ?_; rintro e w4 ⟨rfl, hw⟩; subst hw; try dsimp only))
                          exact ⟨⟨v + 1, by omega, by omega, by go_num, HNV.out (fun h => by have := (G3.out.1 h).2.1; cases this)⟩, by simp [intOf]; omega⟩
                        · go_wp2_with (first
                            | (go_at_call 27; refine (KQv.out).mono ?_; rintro e w4 ⟨rfl, hw⟩; subst hw; try dsimp only))
                          have hcnt : ∀ k, thirdTo g (ldiff f y) x v k ≤ k := fun k => by
                            induction k with
                            | zero => exact Nat.le_refl _
                            | succ k ih => unfold thirdTo; split <;> omega
                          have HCN := Lib.hid hcnt
                          clear hcnt
                          have hdy2 := hdy
                          go_loop [9, 10] (fun s9 s10 => ∃ (k c : Nat), k ≤ n ∧ s10 = .int .i64 k ∧ s9 = .int .i64 c ∧ c ≤ k ∧ Hid (c = thirdTo g (ldiff f y) x v k)) (fun _ s10 => n - (intOf s10).toNat)
                          case atStart => exact ⟨0, 0, by omega, rfl, rfl, by omega, rfl⟩
                          case round =>
                            obtain ⟨k, c, hk, rfl, rfl, hck, hcd⟩ := hrel
                            by_cases hkn : k < n
                            · have hci := HC.out k hkn
                              have hgs := HSM.out k
                              have hT : Hid (thirdTo g (ldiff f y) x v (k + 1) = c + if (ldiff f y).testBit k && (nb g k &&& x != 0) && (nb g k &&& v != 0) then 1 else 0) := by unfold Hid; rw [hcd.out]; rfl
                              generalize nb g k = gk at *
                              have hkni : ((k : Nat) : Int) < (n : Int) := by omega
                              go_wp2
                              · have h1 : gk &&& x = 0 := by assumption
                                exact ⟨⟨k + 1, c, by omega, by go_num, rfl, by omega, by unfold Hid; rw [hT.out, if_neg (by simp [h1])]; rfl⟩, by simp [intOf]; omega⟩
                              · have h0 : (ldiff f y).testBit k = true := by assumption
                                have h1 : (((gk &&& x : Nat) : Int) != 0) = true ∧ (((gk &&& v : Nat) : Int) != 0) = true := by assumption
                                rw [cast_bne, cast_bne] at h1
                                exact ⟨⟨k + 1, c + 1, by omega, by go_num, by go_num, by omega, by unfold Hid; rw [hT.out, if_pos (by rw [h0, h1.1, h1.2]; rfl)]⟩, by simp [intOf]; omega⟩
                              · have h1 : (((gk &&& x : Nat) : Int) != 0) = false ∨ (((gk &&& v : Nat) : Int) != 0) = false := by assumption
                                rw [cast_bne, cast_bne] at h1
                                exact ⟨⟨k + 1, c, by omega, by go_num, rfl, by omega, by
                                  unfold Hid
                                  rw [hT.out, if_neg]
                                  · rfl
                                  · rcases h1 with h1 | h1 <;> rw [h1] <;> simp⟩, by simp [intOf]; omega⟩
                              · have h0 : ¬ (ldiff f y).testBit k = true := by assumption
                                exact ⟨⟨k + 1, c, by omega, by go_num, rfl, by omega, by unfold Hid; rw [hT.out, if_neg (by simp [h0])]; rfl⟩, by simp [intOf]; omega⟩
                            · have : k = n := by omega
                              subst this
                              have KS1 := Lib.hid (KC.out x _ hxs rfl)
                              have KS2 := Lib.hid (KC.out v _ hvs rfl)
                              obtain ⟨zx, hzx⟩ : ∃ z, Hid (z = size x) := ⟨_, rfl⟩
                              obtain ⟨zv, hzv⟩ : ∃ z, Hid (z = size v) := ⟨_, rfl⟩
                              rw [← hzx.out] at KS1 G3
                              rw [← hzv.out] at KS2 G3
                              have bzx : zx ≤ 64 := by rw [hzx.out]; exact size_le _
                              have bzv : zv ≤ 64 := by rw [hzv.out]; exact size_le _
                              rw [← hcd.out] at G3
                              by_cases hge : c ≤ zx + zv
                              · have hgei : ((c : Nat) : Int) ≤ (zx : Int) + (zv : Int) := by omega
                                go_wp2_with (first
                                  | (go_at_call 25; with_reducible refine (KS1.out).mono ?_; rintro e w5 ⟨rfl, hw⟩; subst hw; try dsimp only)
                                  | (go_at_call 25; with_reducible refine (KS2.out).mono ?_; rintro e w5 ⟨rfl, hw⟩; subst hw; try dsimp only))
                                go_ret
                                refine ⟨ret_bool (hq.out.2 ?_).symm, rfl⟩
                                refine H0.out.2 ⟨y, hy1, hyf, G1.out.2 ⟨by omega, trivial, x, hx1, hxf, G2.out.2 ⟨HW.out, trivial, v, hv1, hvf, G3.out.2 ⟨HW2.out, trivial, hge⟩⟩⟩⟩
                              · have hgei : ¬ ((c : Nat) : Int) ≤ (zx : Int) + (zv : Int) := by omega
                                go_wp2_with (first
                                  | (go_at_call 25; with_reducible refine (KS1.out).mono ?_; rintro e w5 ⟨rfl, hw⟩; subst hw; try dsimp only)
                                  | (go_at_call 25; with_reducible refine (KS2.out).mono ?_; rintro e w5 ⟨rfl, hw⟩; subst hw; try dsimp only))
                                exact ⟨⟨v + 1, by omega, by omega, by go_num, HNV.out (fun h => hge (G3.out.1 h).2.2)⟩, by simp [intOf]; omega⟩
                      · have hz2 : (((ldiff v y : Nat) : Int) != 0) = true := by rw [bne_iff_ne]; intro h; exact hw2 (ldiff_zero.1 (by omega))
                        have HW2 := Lib.hid hw2
                        clear hw2
                        go_wp2
                        exact ⟨⟨v + 1, by omega, by omega, by go_num, HNV.out (fun h => HW2.out (G3.out.1 h).1)⟩, by simp [intOf]; omega⟩
                    · have hvf1 : Hid (v = f + 1) := by unfold Hid; omega
                      go_wp2
                      exact ⟨⟨x + 1, by omega, by omega, by go_num, HNX.out (fun h => by
                        obtain ⟨_, _, z, z1, z2, z3⟩ := G2.out.1 h
                        exact hvn.out z z1 (by have := hvf1.out; omega) z3)⟩, by simp [intOf]; omega⟩
              · have hz : (((ldiff x y : Nat) : Int) != 0) = true := by rw [bne_iff_ne]; intro h; exact hw (ldiff_zero.1 (by omega))
                have HW := Lib.hid hw
                clear hw
                go_wp2
                exact ⟨⟨x + 1, by omega, by omega, by go_num, HNX.out (fun h => HW.out (G2.out.1 h).1)⟩, by simp [intOf]; omega⟩
            · have hxf1 : Hid (x = f + 1) := by unfold Hid; omega
              go_wp2
              exact ⟨⟨y + 1, by omega, by omega, by go_num, HNY.out (fun h => by
                obtain ⟨_, _, z, z1, z2, z3⟩ := G1.out.1 h
                exact hxn.out z z1 (by have := hxf1.out; omega) z3)⟩, by simp [intOf]; omega⟩
    · have : y = f + 1 := by omega
      go_wp2
      go_ret
      have hqf : q = false := by
        cases q with
        | false => rfl
        | true =>
          obtain ⟨z, h1, h2, h3⟩ := H0.out.1 (hq.out.1 rfl)
          exact absurd h3 (hyn.out z h1 (by omega))
      exact ⟨ret_bool hqf.symm, rfl⟩
end Go.Proofs.Ytfbobojpocnfeaa
