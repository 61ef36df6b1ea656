/- A law's walk: ShiftPeaks. -/
import Derived.Test.YtgpijajgaclhfaaDoorG315
set_option linter.unusedVariables false
set_option linter.unusedSimpArgs false
namespace Go.Proofs.YtgpijajgaclhfaaDoor
open Go.RowKit Go.Shelf

/-- the number of boats among the first -/
def mxTo (out : Nat → Nat) : Nat → Nat
  | 0 => 0
  | j + 1 => max (mxTo out j) (out j + 1)
theorem mxTo_le {out : Nat → Nat} {many : Nat} : ∀ {m}, (∀ x, x < m → out x < many) → mxTo out m ≤ many
  | 0, _ => Nat.zero_le _
  | m + 1, h => by
    have := mxTo_le (m := m) fun x hx => h x (by omega)
    have h2 := h m (by omega)
    unfold mxTo; omega
theorem mxTo_ge {out : Nat → Nat} {x : Nat} : ∀ {m}, x < m → out x + 1 ≤ mxTo out m
  | 0, h => by omega
  | m + 1, h => by
    unfold mxTo
    by_cases e : x = m
    · subst e; omega
    · have := mxTo_ge (out := out) (x := x) (m := m) (by omega); omega
set_option maxRecDepth 100000 in
set_option maxHeartbeats 4000000 in
theorem law4 (a : Option Addr) (cap : Nat) (ps : List (Int × Int)) (w : World) (hP : PairsIn w a cap ps) (hT : Tab w) :
    Calls Tryd.prog 4 #[.slice a ps.length cap] w fun e w' => e = .returned (.bool true) ∧ Below w.heap.size w w' := by
  have HSP := Lib.hid (spans_any a cap ps w hP)
  have HT := Lib.hid hT
  clear hP hT
  obtain ⟨len, HLEN⟩ : ∃ len, Hid (ps.length = len) := ⟨_, rfl⟩
  rw [HLEN.out] at HSP ⊢
  obtain ⟨qs, hqs⟩ : ∃ qs, Hid (qs = ps.take 13) := ⟨_, rfl⟩
  rw [← hqs.out] at HSP
  have hql : qs.length ≤ 13 := by rw [hqs.out, List.length_take]; omega
  have HQL := Lib.hid hql
  obtain ⟨m, HM⟩ : ∃ m, Hid (qs.length = m) := ⟨_, rfl⟩
  rw [HM.out] at HSP hql
  clear hqs
  obtain ⟨c, hc, hc0, hc2⟩ := CkI.code qs
  have HC := Lib.hid hc
  clear hc
  go_enter Tryd.func4, Tryd.ntmps4
  go_upto_region 2 with (go_at_call 13; refine HSP.out.mono ?_; rintro e w1 ⟨p, cp, rfl, hP1, hB1⟩; have HP1 := Lib.hid hP1; have HB1 := Lib.hid hB1; clear hP1 hB1)
  by_cases h0 : c = 0
  · have hok := HC.out.zero.1 h0
    have HOK := Lib.hid hok
    subst h0
    have HG := Lib.hid (boats_ok p cp qs w1 hok HP1.out)
    rw [HM.out] at HG
    clear hok
    go_upto_region 3 with (go_at_call 15; refine HG.out.mono ?_; rintro e w3 ⟨p3, out, many, peak, rfl, hpk, hri, hla, hs3, hB3⟩; have HPK := Lib.hid hpk; have HRI := Lib.hid hri; have HLA := Lib.hid hla; have HS3 := Lib.hid hs3; have HP3 := Lib.hid (HP1.out.below hB3 (Nat.le_refl _)); have HB3 := Lib.hid (HB1.out.trans (hB3.mono HB1.out.size)); clear hpk hri hla hs3 hB3)
    clear HG
    have hmm : m ≤ 12 := by have := HOK.out.2.1; rw [HM.out] at this; exact this
    have HMX : Hid (mxTo out m = many) := by
      obtain ⟨x, hx, e⟩ := HLA.out
      have h1 := mxTo_le HRI.out.1
      have h2 := mxTo_ge (out := out) hx
      unfold Hid; omega
    have HMY : Hid (cntTo (la qs) (ua qs) peak m = many) := by
      rw [cntTo_all]
      obtain ⟨i, hi, e1, e2⟩ := HPK.out.some_
      exact e2
    have HMM : Hid (many ≤ 12) := by
      rw [← HMY.out]; exact Nat.le_trans (cntTo_le _ _ _ _) hmm
    go_upto_region 7 with (fail)
    go_loopw [7, 9] (fun s7 s9 wr => ∃ j : Nat, j ≤ m ∧ s9 = .int .i64 (j : Int) ∧ s7 = .int .i64 (cntTo (la qs) (ua qs) peak j : Nat) ∧ ∃ q, Hid (wr = w3.drewN q)) (fun _ s9 _ => m - (intOf s9).toNat)
    case atStart => exact ⟨0, by omega, rfl, rfl, 0, rfl⟩
    case round =>
      obtain ⟨j, hj, rfl, rfl, q2, hw⟩ := hrel
      rw [hw.out]
      clear hw
      by_cases hjm : j < m
      · have g3 : (j : Int) < (m : Int) := by omega
        have g4 : (0 : Int) ≤ (j : Int) := by omega
        obtain ⟨b', o', rfl, hb', p1, p2⟩ := HP3.out.at (k := j) (by rw [HM.out]; exact hjm)
        have hct : Hid (cntTo (la qs) (ua qs) peak (j + 1) = cntTo (la qs) (ua qs) peak j + if la qs j ≤ peak ∧ peak ≤ ua qs j then 1 else 0) := rfl
        have hcl := cntTo_le (la qs) (ua qs) peak j
        have hcm : cntTo (la qs) (ua qs) peak j < 1048576 := by omega
        generalize la qs j = lj at *
        generalize ua qs j = uj at *
        generalize cntTo (la qs) (ua qs) peak j = cj at *
        by_cases h1 : lj ≤ peak
        · have e1 : decide (lj ≤ peak) = true := by simpa using h1
          by_cases h2 : peak ≤ uj
          · have HN : Hid (cntTo (la qs) (ua qs) peak (j + 1) = cj + 1) := by rw [hct.out, if_pos ⟨h1, h2⟩]; rfl
            go_wp2
            exact ⟨⟨j + 1, by omega, int_eq (by omega), by rw [HN.out]; exact int_eq (by omega), _, rfl⟩, by simp [intOf]; omega⟩
          · have HN : Hid (cntTo (la qs) (ua qs) peak (j + 1) = cj) := by rw [hct.out, if_neg (fun h => h2 h.2)]; rfl
            go_wp2
            exact ⟨⟨j + 1, by omega, int_eq (by omega), by rw [HN.out], _, rfl⟩, by simp [intOf]; omega⟩
        · have e1 : decide (lj ≤ peak) = false := by simpa using h1
          have HN : Hid (cntTo (la qs) (ua qs) peak (j + 1) = cj) := by rw [hct.out, if_neg (fun h => h1 h.1)]; rfl
          go_wp2
          exact ⟨⟨j + 1, by omega, int_eq (by omega), by rw [HN.out], _, rfl⟩, by simp [intOf]; omega⟩
      · have g3 : ¬ (j : Int) < (m : Int) := by omega
        obtain rfl : m = j := by omega
        have hcy := HMY.out
        rw [hcy]
        clear hcy
        generalize hX : w3.drewN q2 = X at *
        have HBX : Hid (Below w.heap.size w X) := by rw [← hX]; exact below_dr HB3.out q2
        have HPX : Hid (Pairs X p qs) := by rw [← hX]; exact HP3.out.below (below_dr (Below.refl w3.heap.size _) q2) (Nat.le_refl _)
        have HSX : Hid (SrcI X p3 m (fun x => (out x : Int))) := by rw [← hX]; exact HS3.out.below (below_dr (Below.refl w3.heap.size _) q2) (Nat.le_refl _)
        clear hX
        go_upto_region 12 with (fail)
        go_loopw [8, 10] (fun s8 s10 wr => ∃ i : Nat, i ≤ m ∧ s10 = .int .i64 (i : Int) ∧ s8 = .int .i64 (mxTo out i : Nat) ∧ ∃ q, Hid (wr = X.drewN q)) (fun _ s10 _ => m - (intOf s10).toNat)
        case atStart => exact ⟨0, by omega, rfl, rfl, 0, rfl⟩
        case round =>
          obtain ⟨i, hi, rfl, rfl, q3, hw⟩ := hrel
          rw [hw.out]
          clear hw
          by_cases him : i < m
          · have g1 : (i : Int) < (m : Int) := by omega
            have g2 : (0 : Int) ≤ (i : Int) := by omega
            obtain ⟨b, o, rfl, hb, k1, k2⟩ := HPX.out.at (k := i) (by rw [HM.out]; exact him)
            obtain ⟨b2, o2, rfl, hb2, hcc⟩ := HSX.out (by omega)
            have l0 := hcc i him
            have hlt := HRI.out.1 i him
            obtain ⟨lx, hlx⟩ : ∃ x, Hid (x = la qs i) := ⟨_, rfl⟩
            obtain ⟨ux, hux⟩ : ∃ x, Hid (x = ua qs i) := ⟨_, rfl⟩
            obtain ⟨bx, hbx⟩ : ∃ x, Hid (x = out i) := ⟨_, rfl⟩
            rw [← hlx.out] at k1
            rw [← hux.out] at k2
            have l1 : X.cell? ⟨b2, o2 + i, none⟩ = some (.int .i64 (bx : Int)) := by rw [hbx.out]; exact l0
            clear l0
            rw [← hbx.out] at hlt
            have HCC := Lib.hid hcc
            have hmx : mxTo out i ≤ many := mxTo_le fun x hx => HRI.out.1 x (by omega)
            have hmy : Hid (mxTo out (i + 1) = max (mxTo out i) (bx + 1)) := by rw [hbx.out]; rfl
            have hm12 := HMM.out
            generalize mxTo out i = mx at *
            have hmax : max (mx : Int) ((bx : Int) + 1) = ((max mx (bx + 1) : Nat) : Int) := by omega
            have HMY2 : Hid (max mx (bx + 1) ≤ 12) := by unfold Hid; omega
            rw [← hmy.out] at hmax
            clear hcc
            go_upto_region 16 with (fail)
            clear hmax
            go_loopw [11] (fun s11 wr => ∃ j : Nat, j ≤ i ∧ s11 = .int .i64 (j : Int) ∧ ∃ q, Hid (wr = X.drewN q)) (fun s11 _ => m - (intOf s11).toNat)
            case atStart => exact ⟨0, by omega, rfl, q3, rfl⟩
            case round =>
              obtain ⟨j, hj, rfl, q4, hw⟩ := hrel
              rw [hw.out]
              clear hw
              by_cases hji : j < i
              · have g3 : (j : Int) < (i : Int) := by omega
                have g4 : (0 : Int) ≤ (j : Int) := by omega
                have g5 : (j : Int) < (m : Int) := by omega
                have g6 : decide (j < i) = true := by simpa using hji
                obtain ⟨b', o', e', hb', p1, p2⟩ := HPX.out.at (k := j) (by rw [HM.out]; omega)
                cases e'
                have l0 := HCC.out j (by omega)
                have hno := HRI.out.2 i j him hji
                rw [← hlx.out, ← hux.out, ← hbx.out] at hno
                generalize la qs j = ly at *
                generalize ua qs j = uy at *
                have l2 : X.cell? ⟨b2, o2 + j, none⟩ = some (.int .i64 ((out j : Nat) : Int)) := l0
                clear l0
                generalize out j = by_ at *
                have HNO := Lib.hid hno
                clear hno
                by_cases h1 : bx = by_
                · subst h1
                  by_cases h2 : lx ≤ uy
                  · have e2 : decide (lx ≤ uy) = true := by simpa using h2
                    have h3 : ¬ ly ≤ ux := fun h => HNO.out ⟨rfl, h2, h⟩
                    have e3 : decide (ly ≤ ux) = false := by simpa using h3
                    go_wp2
                    go_quiet (fail)
                    go_wp2
                    exact ⟨⟨j + 1, by omega, int_eq (by omega), _, rfl⟩, by simp [intOf]; omega⟩
                  · have e2 : decide (lx ≤ uy) = false := by simpa using h2
                    go_wp2
                    go_quiet (fail)
                    go_wp2
                    exact ⟨⟨j + 1, by omega, int_eq (by omega), _, rfl⟩, by simp [intOf]; omega⟩
                · have e1 : ((bx : Int) == (by_ : Int)) = false := by rw [beq_eq_false_iff_ne]; omega
                  go_wp2
                  go_quiet (fail)
                  go_wp2
                  exact ⟨⟨j + 1, by omega, int_eq (by omega), _, rfl⟩, by simp [intOf]; omega⟩
              · have g3 : ¬ (j : Int) < (i : Int) := by omega
                have g6 : decide (j < i) = false := by simpa using hji
                obtain rfl : i = j := by omega
                go_wp2
                exact ⟨⟨i + 1, by omega, int_eq (by omega), rfl, q4, rfl⟩, by simp [intOf]; omega⟩
          · have g1 : ¬ (i : Int) < (m : Int) := by omega
            obtain rfl : m = i := by omega
            have hmz := HMX.out
            rw [hmz]
            clear hmz
            have HAW := Lib.hid (fun q => awake_any (X.drewN q) (HT.out.below (below_dr HBX.out q) (Nat.le_refl _)))
            go_wp2_with (go_at_call 17; refine (HAW.out _).mono ?_; rintro e w9 ⟨rfl, hB9⟩; have HB9 := Lib.hid (HBX.out.trans (((below_dr (Below.refl X.heap.size _) q3).trans hB9).mono HBX.out.size)); clear hB9)
            go_ret
            exact ⟨rfl, HB9.out⟩
  · have HG := Lib.hid (boats_bad p cp qs w1 c HC.out h0 (by have := HQL.out; omega) HP1.out)
    rw [HM.out] at HG
    go_upto_region 3 with (go_at_call 15; refine HG.out.mono ?_; rintro e w3 ⟨rfl, hB3⟩; have HB3 := Lib.hid (HB1.out.trans (hB3.mono HB1.out.size)); clear hB3)
    clear HG
    have HAW := Lib.hid (awake_any w3 (HT.out.below HB3.out (Nat.le_refl _)))
    have g0 : (c != 0) = true := by rw [bne_iff_ne]; exact h0
    rcases (show c = 1 ∨ c = 2 by omega) with rfl | rfl
    all_goals
      go_wp2_with (go_at_call 17; refine HAW.out.mono ?_; rintro e w9 ⟨rfl, hB9⟩; have HB9 := Lib.hid (HB3.out.trans (hB9.mono HB3.out.size)); clear hB9)
      go_ret
      exact ⟨rfl, HB9.out⟩
end Go.Proofs.YtgpijajgaclhfaaDoor
