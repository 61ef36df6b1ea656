/- What a program must do whatever the input is, at stage 10: walk. Who is at home wins: the law's walk. For every input the law TopHomes returns true and leaves its arguments as they were. No condition. -/
import Derived.Test.YtbioondlmgolkaaG313
import Derived.Test.YtbioondlmgolkaaG319
import Derived.Test.YtbioondlmgolkaaG310
import Derived.Test.YtbioondlmgolkaaG320
import Derived.Test.YtbioondlmgolkaaG322
import Derived.Test.YtbioondlmgolkaaRows
import Derived.Test.YtbioondlmgolkaaLo
set_option linter.unusedVariables false
set_option linter.unusedSimpArgs false
namespace Go.Proofs.Ytbioondlmgolkaa
open Go.RowKit Go.Shelf

/-- three boats in a ring -/
def ringT (i j : Nat) : Bool := (decide (i = 0) && decide (j = 1)) || (decide (i = 1) && decide (j = 2)) || (decide (i = 2) && decide (j = 0))
theorem ringT_tour : TourP 3 ringT where
  irr := fun i hi => by rcases (show i = 0 ∨ i = 1 ∨ i = 2 by omega) with rfl | rfl | rfl <;> rfl
  tot := fun i j hi hj => by
    rcases (show i = 0 ∨ i = 1 ∨ i = 2 by omega) with rfl | rfl | rfl <;> rcases (show j = 0 ∨ j = 1 ∨ j = 2 by omega) with rfl | rfl | rfl <;> intro h <;> first | rfl | exact absurd rfl h
theorem ring1 : tc1 3 ringT 3 = 1 := by decide
theorem asc3 : (ascE 2).length = 5 := by decide
theorem tn_asc (w : World) : Calls Try.prog 32 #[.int .i64 3] w fun e w' => e = .returned (.tuple #[.int .i64 5, .int .i64 0]) ∧ Below w.heap.size w w' := by
  refine (Ascents_any 3 w).mono ?_
  rintro e w' ⟨⟨_, h⟩ | ⟨k, hk, _, rfl⟩, hB⟩
  · omega
  · obtain rfl : k = 2 := by omega
    rw [asc3]
    exact ⟨rfl, hB⟩
theorem tbl_ofT {W : World} {B n : Nat} {ln : Nat → Nat} {r : Nat → Nat → Bool} (hB : B < W.heap.size) (h : ∀ i, i < n → ∃ p c, W.cell? ⟨B, i, none⟩ = some (.slice p (ln i) c) ∧ SrcBl W p (ln i) (r i)) : TblI W (some ⟨B, 0, none⟩) n ln r :=
  fun _ => ⟨B, 0, rfl, hB, fun i hi => by rw [Nat.zero_add]; exact h i hi⟩
theorem srcBl_ofT {W : World} {B m : Nat} {f : Nat → Bool} {vs : Array Value} (h : BoxN W B 4 vs) (hv : ∀ j, j < m → vs[j]? = some (.bool (f j))) : SrcBl W (some ⟨B, 0, none⟩) m f :=
  fun _ => ⟨B, 0, rfl, h.lt, fun j hj => by rw [Nat.zero_add, h.cell]; exact hv j hj⟩
set_option maxRecDepth 100000 in
set_option maxHeartbeats 4000000 in
theorem ten_any (w : World) : Calls Try.prog 11 #[] w fun e w' => e = .returned (.bool true) ∧ Below w.heap.size w w' := by
  go_enter Try.func11, Try.ntmps11
  have HC : Hid (Calls Try.prog 7 #[.int .i64 2] w fun e w' => ∃ p c, e = .returned (.tuple #[.slice p 1 c, .int .i64 0]) ∧ Below w.heap.size w w') := by
    refine (Circle_ok 2 w (by decide) (by decide) (by decide)).mono ?_
    rintro e w' ⟨v, rfl, hS, hB⟩
    obtain ⟨p, c, rfl⟩ := hS.isSlice
    exact ⟨p, c, rfl, hB⟩
  go_upto_region 2 with (go_at_call 7; refine HC.out.mono ?_; rintro e w1 ⟨p1, c1, rfl, hB1⟩; have HB1 := Lib.hid hB1; clear hB1)
  go_upto_region 3 with (go_at_call 32; refine (tn_asc _).mono ?_; rintro e w6 ⟨rfl, hB6⟩; have HB6 := Lib.hid (HB1.out.trans (hB6.mono HB1.out.size)); clear hB6)
  have hw6 : w.heap.size ≤ w6.heap.size := HB6.out.size
  have hb0 : BoxN (w6.alloc (.cells #[.bool false, .bool true, .bool false] 4)) w6.heap.size 4 #[.bool false, .bool true, .bool false] := BoxN.new rfl
  have hb0 := ((hb0.alloc (.cells #[.bool false, .bool false, .bool true] 4)).alloc (.cells #[.bool true, .bool false, .bool false] 4)).alloc (.cells #[.slice (some ⟨w6.heap.size, 0, none⟩) 3 3, .slice (some ⟨w6.heap.size + 1, 0, none⟩) 3 3, .slice (some ⟨w6.heap.size + 1 + 1, 0, none⟩) 3 3] 33)
  have hb1 : BoxN ((w6.alloc (.cells #[.bool false, .bool true, .bool false] 4)).alloc (.cells #[.bool false, .bool false, .bool true] 4)) (w6.heap.size + 1) 4 #[.bool false, .bool false, .bool true] := BoxN.new (by simp)
  have hb1 := (hb1.alloc (.cells #[.bool true, .bool false, .bool false] 4)).alloc (.cells #[.slice (some ⟨w6.heap.size, 0, none⟩) 3 3, .slice (some ⟨w6.heap.size + 1, 0, none⟩) 3 3, .slice (some ⟨w6.heap.size + 1 + 1, 0, none⟩) 3 3] 33)
  have hb2 : BoxN (((w6.alloc (.cells #[.bool false, .bool true, .bool false] 4)).alloc (.cells #[.bool false, .bool false, .bool true] 4)).alloc (.cells #[.bool true, .bool false, .bool false] 4)) (w6.heap.size + 1 + 1) 4 #[.bool true, .bool false, .bool false] := BoxN.new (by simp)
  have hb2 := hb2.alloc (.cells #[.slice (some ⟨w6.heap.size, 0, none⟩) 3 3, .slice (some ⟨w6.heap.size + 1, 0, none⟩) 3 3, .slice (some ⟨w6.heap.size + 1 + 1, 0, none⟩) 3 3] 33)
  have hb3 : BoxN ((((w6.alloc (.cells #[.bool false, .bool true, .bool false] 4)).alloc (.cells #[.bool false, .bool false, .bool true] 4)).alloc (.cells #[.bool true, .bool false, .bool false] 4)).alloc (.cells #[.slice (some ⟨w6.heap.size, 0, none⟩) 3 3, .slice (some ⟨w6.heap.size + 1, 0, none⟩) 3 3, .slice (some ⟨w6.heap.size + 1 + 1, 0, none⟩) 3 3] 33)) (w6.heap.size + 1 + 1 + 1) 33 #[.slice (some ⟨w6.heap.size, 0, none⟩) 3 3, .slice (some ⟨w6.heap.size + 1, 0, none⟩) 3 3, .slice (some ⟨w6.heap.size + 1 + 1, 0, none⟩) 3 3] := BoxN.new (by simp)
  have hBU : Below w6.heap.size w6 ((((w6.alloc (.cells #[.bool false, .bool true, .bool false] 4)).alloc (.cells #[.bool false, .bool false, .bool true] 4)).alloc (.cells #[.bool true, .bool false, .bool false] 4)).alloc (.cells #[.slice (some ⟨w6.heap.size, 0, none⟩) 3 3, .slice (some ⟨w6.heap.size + 1, 0, none⟩) 3 3, .slice (some ⟨w6.heap.size + 1 + 1, 0, none⟩) 3 3] 33)) := (((((Below.refl _ w6).alloc (Nat.le_refl _) _).alloc (by simp) _).alloc (by simp; omega) _).alloc (by simp; omega) _)
  have HMG : Hid (Calls Try.prog 20 #[.slice (some ⟨w6.heap.size + 1 + 1 + 1, 0, none⟩) 3 3] ((((w6.alloc (.cells #[.bool false, .bool true, .bool false] 4)).alloc (.cells #[.bool false, .bool false, .bool true] 4)).alloc (.cells #[.bool true, .bool false, .bool false] 4)).alloc (.cells #[.slice (some ⟨w6.heap.size, 0, none⟩) 3 3, .slice (some ⟨w6.heap.size + 1, 0, none⟩) 3 3, .slice (some ⟨w6.heap.size + 1 + 1, 0, none⟩) 3 3] 33)) fun e w' => e = .returned (.tuple #[.int .i64 1, .int .i64 0]) ∧ Below ((((w6.alloc (.cells #[.bool false, .bool true, .bool false] 4)).alloc (.cells #[.bool false, .bool false, .bool true] 4)).alloc (.cells #[.bool true, .bool false, .bool false] 4)).alloc (.cells #[.slice (some ⟨w6.heap.size, 0, none⟩) 3 3, .slice (some ⟨w6.heap.size + 1, 0, none⟩) 3 3, .slice (some ⟨w6.heap.size + 1 + 1, 0, none⟩) 3 3] 33)).heap.size ((((w6.alloc (.cells #[.bool false, .bool true, .bool false] 4)).alloc (.cells #[.bool false, .bool false, .bool true] 4)).alloc (.cells #[.bool true, .bool false, .bool false] 4)).alloc (.cells #[.slice (some ⟨w6.heap.size, 0, none⟩) 3 3, .slice (some ⟨w6.heap.size + 1, 0, none⟩) 3 3, .slice (some ⟨w6.heap.size + 1 + 1, 0, none⟩) 3 3] 33)) w') := by
    have hTU : TblI ((((w6.alloc (.cells #[.bool false, .bool true, .bool false] 4)).alloc (.cells #[.bool false, .bool false, .bool true] 4)).alloc (.cells #[.bool true, .bool false, .bool false] 4)).alloc (.cells #[.slice (some ⟨w6.heap.size, 0, none⟩) 3 3, .slice (some ⟨w6.heap.size + 1, 0, none⟩) 3 3, .slice (some ⟨w6.heap.size + 1 + 1, 0, none⟩) 3 3] 33)) (some ⟨w6.heap.size + 1 + 1 + 1, 0, none⟩) 3 (fun _ => 3) ringT := tbl_ofT hb3.lt fun i hi => by
      rcases (show i = 0 ∨ i = 1 ∨ i = 2 by omega) with rfl | rfl | rfl
      · exact ⟨_, _, hb3.cell 0, srcBl_ofT hb0 fun j hj => by rcases (show j = 0 ∨ j = 1 ∨ j = 2 by omega) with rfl | rfl | rfl <;> rfl⟩
      · exact ⟨_, _, hb3.cell 1, srcBl_ofT hb1 fun j hj => by rcases (show j = 0 ∨ j = 1 ∨ j = 2 by omega) with rfl | rfl | rfl <;> rfl⟩
      · exact ⟨_, _, hb3.cell 2, srcBl_ofT hb2 fun j hj => by rcases (show j = 0 ∨ j = 1 ∨ j = 2 by omega) with rfl | rfl | rfl <;> rfl⟩
    have := Triples_ok (some ⟨w6.heap.size + 1 + 1 + 1, 0, none⟩) 3 3 ringT _ (by decide) (by decide) ringT_tour hTU
    rw [ring1] at this
    exact this
  clear hb0 hb1 hb2 hb3
  have HBU := Lib.hid (HB6.out.trans (hBU.mono hw6))
  clear hBU
  go_upto_region 4 with (go_at_call 20; refine HMG.out.mono ?_; rintro e w8 ⟨rfl, hB8⟩; have HB8 := Lib.hid (HBU.out.trans (hB8.mono HBU.out.size)); clear hB8)
  go_wp2
  go_ret
  exact ⟨rfl, HB8.out⟩
end Go.Proofs.Ytbioondlmgolkaa
namespace Go.Proofs.Ytbioondlmgolkaa
open Go.RowKit Go.Shelf
attribute [local go_sem] Oper.semAt_some

theorem idxS (l : List UInt8) (s : ByteArray) (hs : s = ⟨l.toArray⟩) (x : Nat) (h : x < l.length) (W : World) : Sem.run Try.prog (Instr.index 9 (.string s) (.int .i64 (x : Int))) W = .ok (.int .u8 ((l[x]).toNat : Int)) W := by
  subst hs
  have h2 : (x : Int) < ((⟨l.toArray⟩ : ByteArray).size : Int) := by
    have : (⟨l.toArray⟩ : ByteArray).size = l.length := List.size_toArray
    omega
  rw [run_index_string W 9 _ .i64 _ (by kernel_rfl), dif_pos ⟨by omega, h2⟩]
  rfl
theorem cntH_take (l : List UInt8) (x : Nat) (h : x < l.length) : cntH (l.take (x + 1)) = cntH (l.take x) + if l[x] = 72 then 1 else 0 := by
  have e : l.take (x + 1) = l.take x ++ [l[x]] := by rw [List.take_add_one, List.getElem?_eq_getElem h]; rfl
  rw [e]
  exact cntH_snoc _ _
theorem cntH_le (l : List UInt8) (x : Nat) : cntH (l.take x) ≤ x := by
  unfold cntH
  exact Nat.le_trans (List.length_filter_le _ _) (by rw [List.length_take]; omega)

set_option maxRecDepth 100000 in
set_option maxHeartbeats 16000000 in
theorem lawH (z : Int) (a : Option Addr) (cap : Nat) (ps : List (Int × Int)) (w : World) (hP : PairsIn w a cap ps) :
    Calls Try.prog 3 #[.int .i64 z, .slice a ps.length cap] w fun e w' => e = .returned (.bool true) ∧ Below w.heap.size w w' := by
  have HP := Lib.hid hP.g
  have hfit := hP.fits
  have hcm := hP.capm
  unfold maxLen at hcm
  clear hP
  obtain ⟨len, HL⟩ : ∃ len, Hid (ps.length = len) := ⟨_, rfl⟩
  rw [HL.out] at hfit ⊢
  have hum := um_lt z (m := 6) (by decide)
  have HSM : Hid (∀ W, Calls Try.prog 6 #[.int .i64 z, .int .i64 5] W fun e w' => e = .returned (.int .i64 (um z 6 : Nat)) ∧ w' = W) := fun W => small_any z 6 W (by decide) (by decide)
  generalize um z 6 = q at *
  obtain ⟨n, hn⟩ : ∃ n : Nat, Hid (n = 2 + 2 * q) := ⟨_, rfl⟩
  obtain ⟨k, hk⟩ : ∃ k : Nat, Hid (n = k + 1) := ⟨2 * q + 1, by unfold Hid; have := hn.out; omega⟩
  obtain ⟨h, hh⟩ : ∃ h : Nat, Hid (n = 2 * h) := ⟨q + 1, by unfold Hid; have := hn.out; omega⟩
  have e1 : (2 : Int) + 2 * (q : Int) = (n : Int) := by have := hn.out; omega
  have hn16 : n ≤ 12 := by have := hn.out; omega
  have hn2 : 2 ≤ n := by have := hn.out; omega
  have HQ : Hid (q < 6) := hum
  have HCI := Lib.hid (fun W => Circle_ok n W hn2 (by omega) (by have := hh.out; omega))
  have HNK : Hid (n - 1 = k) := by unfold Hid; have := hk.out; omega
  have HNH : Hid (n / 2 = h) := by unfold Hid; have := hh.out; omega
  have e2 : (n : Int) - 1 = (k : Int) := by have := hk.out; omega
  have e3 : Int.tdiv (n : Int) 2 = (h : Int) := by have := hh.out; rw [Int.tdiv_eq_ediv_of_nonneg (by omega)]; omega
  have e4 : (n : Int) - 2 = (k : Int) - 1 := by have := hk.out; omega
  have hk1 : 1 ≤ k := by have := hk.out; omega
  have hk11 : k ≤ 11 := by have := hk.out; omega
  have hh1 : 1 ≤ h := by have := hh.out; omega
  have hh6 : h ≤ 6 := by have := hh.out; omega
  clear hum
  go_enter Try.func3, Try.ntmps3
  go_upto_region 6 with (first
    | (go_at_call 6; refine (HSM.out _).mono ?_; rintro e w4 ⟨rfl, hw4⟩; replace hw4 := hw4.symm; subst hw4; try dsimp only)
    | (go_at_call 7; refine (HCI.out _).mono ?_; rintro e w1 ⟨v1, rfl, hS1, hB1⟩; rw [HNK.out, HNH.out] at hS1; obtain ⟨p1, c1, hv1⟩ := hS1.isSlice; subst hv1; have HS1 := Lib.hid hS1; have HB1 := Lib.hid hB1; clear hS1 hB1))
  have hn6 : n = 2 ∨ n = 4 ∨ n = 6 ∨ n = 8 ∨ n = 10 ∨ n = 12 := by have := hn.out; have := HQ.out; omega
  have HCP := Lib.hid (cir_sch hn6)
  have HCA := Lib.hid (cir_all hn6)
  have HSK : Hid (SchK w1 w1.heap.size p1 k h (cir n)) := HS1.out.schK
  clear hn6
  go_loopw [7] (fun s7 wr => ∃ r : Nat, r ≤ k ∧ s7 = .int .i64 (r : Int) ∧ Hid (w1 = wr)) (fun s7 _ => k - (intOf s7).toNat)
  case atStart => exact ⟨0, by omega, rfl, rfl⟩
  case round =>
    obtain ⟨r, hr, rfl, hw⟩ := hrel
    rw [← hw.out]
    clear hw
    by_cases hrk : r < k
    · have g1 : (r : Int) < (k : Int) := by omega
      obtain ⟨b, o, e, _, hrows⟩ := HSK.out.2 (by omega)
      subst e
      obtain ⟨q1, cq, k1, hcs⟩ := hrows r hrk
      obtain ⟨b', o', e, _, hcs2⟩ := hcs (by omega)
      subst e
      have HCS := Lib.hid hcs2
      clear hrows hcs hcs2
      go_upto_region 11 with (fail)
      go_loopw [8] (fun s8 wq => ∃ i : Nat, i ≤ h ∧ s8 = .int .i64 (i : Int) ∧ Hid (w1 = wq)) (fun s8 _ => h - (intOf s8).toNat)
      case atStart => exact ⟨0, by omega, rfl, rfl⟩
      case round =>
        obtain ⟨i, hi, rfl, hw⟩ := hrel
        rw [← hw.out]
        clear hw
        by_cases hih : i < h
        · have g2 : (i : Int) < (h : Int) := by omega
          have c1 := (HCS.out i hih).1
          have c2 := (HCS.out i hih).2
          have hrng := HCP.out.rng r i (by rw [HNK.out]; exact hrk) (by rw [HNH.out]; exact hih)
          generalize (cir n r i).1 = u at *
          generalize (cir n r i).2 = v at *
          have f1 : ¬ (u : Int) < 0 := by omega
          have f2 : ¬ (n : Int) ≤ (u : Int) := by omega
          have f3 : ¬ (v : Int) < 0 := by omega
          have f4 : ¬ (n : Int) ≤ (v : Int) := by omega
          go_wp2
          exact ⟨⟨i + 1, by omega, int_eq (by omega), (by first | exact trivial | exact rfl)⟩, by simp [intOf]; omega⟩
        · have g2 : ¬ (i : Int) < (h : Int) := by omega
          go_wp2
          exact ⟨⟨r + 1, by omega, int_eq (by omega), (by first | exact trivial | exact rfl)⟩, by simp [intOf]; omega⟩
    · have g1 : ¬ (r : Int) < (k : Int) := by omega
      clear hrk hr
      obtain ⟨b1, o1, e, _⟩ := HSK.out.2 (by omega)
      subst e
      clear HSK
      go_upto_region 16 with (fail)
      go_loopw [9] (fun s9 wr => ∃ (i : Nat) (m : Nat → Nat → Nat × Nat), i ≤ len ∧ i ≤ 30 ∧ s9 = .int .i64 (i : Int) ∧ Hid (SchR wr w.heap.size (.slice (some ⟨b1, o1, none⟩) k c1) k h m) ∧ Hid (TurnP (cir n) m) ∧ Hid (Below w.heap.size w wr)) (fun s9 _ => 40 - (intOf s9).toNat)
      case atStart => exact ⟨0, cir n, by omega, by omega, rfl, HS1, TurnP.refl _, HB1⟩
      case round =>
        clear HS1 HB1
        obtain ⟨i, m, hi, hi30, rfl, hS, hT, hB⟩ := hrel
        obtain ⟨wo, hwo⟩ : ∃ wo, Hid (wo = wr) := ⟨_, rfl⟩
        rw [← hwo.out] at hS hB ⊢
        clear hwo
        have hwr : w.heap.size ≤ wo.heap.size := hB.out.size
        by_cases hgo : i < len ∧ i < 30
        · have g1 : (i : Int) < (len : Int) := by omega
          have g2 : (i : Int) < 30 := by omega
          obtain ⟨b, o, rfl, hb, k1, k2⟩ := HP.out.at (k := i) (by rw [HL.out]; exact hgo.1)
          have r1 : wo.cell? ⟨b, o + i * 2, none⟩ = some (.int .i64 (la ps i)) := (hB.out.cell (p := ⟨b, o + i * 2, none⟩) hb).trans k1
          have r2 : wo.cell? ⟨b, o + i * 2 + 1, none⟩ = some (.int .i64 (ua ps i)) := (hB.out.cell (p := ⟨b, o + i * 2 + 1, none⟩) hb).trans k2
          have hl1 := um_lt (la ps i) (m := k) hk1
          have hl2 := um_lt (ua ps i) (m := h) hh1
          have HM1 := Lib.hid (fun W => small_any (la ps i) k W hk1 (by omega))
          have HM2 := Lib.hid (fun W => small_any (ua ps i) h W hh1 (by omega))
          generalize um (la ps i) k = r at *
          generalize um (ua ps i) h = j at *
          generalize la ps i = z1 at *
          generalize ua ps i = z2 at *
          have g3 : (r : Int) < (k : Int) := by omega
          have g4 : (j : Int) < (h : Int) := by omega
          obtain ⟨b2, o2, cap2, p, c, e, hb2, kr, hqr, hup⟩ := hS.out.rows.at (by decide) hl1
          cases e
          obtain ⟨g, og, capg, e, hgw, hg, _, _, hcc, _⟩ := hqr.at (by omega)
          cases e
          have c1' := (hcc (j * 2) (by omega)).trans (cells_get m hl2).1
          have c2' : wo.cell? ⟨g, og + j * 2 + 1, none⟩ = some (.int .i64 ((m r j).2 : Int)) := by
            have := (hcc (j * 2 + 1) (by omega)).trans (cells_get m hl2).2
            rw [← this]; rfl
          have HQR := Lib.hid hqr
          have HUP := Lib.hid hup
          have HCT := Lib.hid (cells_turn m (r := r) hl2)
          clear hcc hqr hup k1 k2
          obtain ⟨u, hu⟩ : ∃ u, (m r j).1 = u := ⟨_, rfl⟩
          obtain ⟨v, hv⟩ : ∃ v, (m r j).2 = v := ⟨_, rfl⟩
          rw [hu, hv] at HCT
          rw [hu] at c1'
          rw [hv] at c2'
          clear hu hv
          go_upto_region 20 with (first
            | (go_at_call 6; with_reducible refine (HM1.out _).mono ?_; rintro e w4 ⟨rfl, hw4⟩; replace hw4 := hw4.symm; subst hw4; try dsimp only)
            | (go_at_call 6; with_reducible refine (HM2.out _).mono ?_; rintro e w4 ⟨rfl, hw4⟩; replace hw4 := hw4.symm; subst hw4; try dsimp only))
          have HX0 : Hid (BoxN (wo.alloc (.cells #[.int .i64 (u : Int), .int .i64 (v : Int)] 28)) wo.heap.size 28 #[.int .i64 (u : Int), .int .i64 (v : Int)]) := BoxN.new rfl
          have HBX : Hid (Below wo.heap.size wo (wo.alloc (.cells #[.int .i64 (u : Int), .int .i64 (v : Int)] 28))) := (Below.refl _ _).alloc (Nat.le_refl _) _
          obtain ⟨bb, hbb⟩ : ∃ bb, Hid (bb = wo.heap.size) := ⟨_, rfl⟩
          rw [← hbb.out] at HX0
          simp only [← hbb.out]
          generalize (wo.alloc (.cells #[.int .i64 (u : Int), .int .i64 (v : Int)] 28)) = X at *
          have hXs : wo.heap.size ≤ X.heap.size := HBX.out.size
          have hX0 := HX0.out.lt
          have hgx : g < X.heap.size := Nat.lt_of_lt_of_le hg hXs
          have m0 : ∀ d : BW X.heap.size X, d.w.cell? ⟨bb, 0, none⟩ = some (.int .i64 (u : Int)) := fun d => d.cell hX0 (HX0.out.cell 0)
          have m1 : ∀ d : BW X.heap.size X, d.w.cell? ⟨bb, 1, none⟩ = some (.int .i64 (v : Int)) := fun d => d.cell hX0 (HX0.out.cell 1)
          have m2 : ∀ d : BW X.heap.size X, d.w.cell? ⟨b, o + i * 2 + 1, none⟩ = some (.int .i64 z2) := fun d => d.cell (show b < X.heap.size by omega) ((HBX.out.cell (p := ⟨b, o + i * 2 + 1, none⟩) (show b < wo.heap.size by omega)).trans r2)
          have HM3 : Hid (∀ d : BW X.heap.size X, Calls Try.prog 6 #[.int .i64 z2, .int .i64 ((h : Int) - 1)] d.w fun e w' => e = .returned (.int .i64 (j : Nat)) ∧ ∃ d' : BW X.heap.size X, w' = d'.w) := fun d => Calls.bw ((HM2.out d.w).mono fun e w' h => ⟨h.1, by rw [h.2]; exact d.b⟩)
          have HC1 := Lib.hid ((HBX.out.cell (p := ⟨g, og + j * 2, none⟩) hg).trans c1')
          have HC2 := Lib.hid ((HBX.out.cell (p := ⟨g, og + j * 2 + 1, none⟩) hg).trans c2')
          clear r1 r2 c1' c2' kr
          refine wp_region_bw_tail 16 (by kernel_rfl) (by kernel_rfl) ?_
          simp only [List.take_succ_cons, List.take_zero, List.drop_succ_cons, List.drop_zero]
          repeat (go_big_quiet_step ((first
            | rfl
            | (go_at_call 6; with_reducible exact HM3.out _))))
          refine wpQuiet_nil ?_
          rintro _ ⟨d, rfl⟩
          have c1 : d.w.cell? ⟨g, og + j * 2, none⟩ = some (.int .i64 (u : Int)) := d.cell hgx HC1.out
          have c2 : d.w.cell? ⟨g, og + j * 2 + 1, none⟩ = some (.int .i64 (v : Int)) := d.cell hgx HC2.out
          have fz : ∀ x, d.w.frozen? ⟨g, x, none⟩ = false := fun x => by
            rcases HQR.out.2 with ⟨e, _⟩ | ⟨g', o', cap', cur, e, _, hgo, _⟩
            · cases e
            · cases e
              exact ((BoxN.below (vs := cur) (BoxN.below (vs := cur) hgo HBX.out hg) d.b hgx)).frozen x
          have HAd : Hid (Ag (fun j => (Value.slice (some ⟨g, og, none⟩) h c).ownBlock = some j) wo d.w) := (Ag.of_belowX HBX.out).trans (Ag.of_belowX d.b)
          have HQd : Hid (QRow d.w w.heap.size 28 2 (.slice (some ⟨g, og, none⟩) h c) h (pairCells (rowL m r h))) := (HQR.out.below HBX.out (fun k hk => (HQR.out.lt k hk).2)).below d.b (fun k hk => Nat.lt_of_lt_of_le (HQR.out.lt k hk).2 hXs)
          have HGW : Hid (w.heap.size ≤ g) := (HQR.out.lt g rfl).1
          clear m0 m1 m2 HC1 HC2
          generalize d.w = Z at *
          go_wp2
          have HQV := Lib.hid ((HQd.out.set (j * 2) (by omega) (.int .i64 (v : Int))).set (j * 2 + 1) (by omega) (.int .i64 (u : Int)))
          have HAV : Hid (Ag (fun j => (Value.slice (some ⟨g, og, none⟩) h c).ownBlock = some j) wo ((Z.setCell ⟨g, og + j * 2, none⟩ (.int .i64 (v : Int))).setCell ⟨g, og + j * 2 + 1, none⟩ (.int .i64 (u : Int)))) := (HAd.out.set ⟨g, og + j * 2, none⟩ _ (.inr rfl)).set ⟨g, og + j * 2 + 1, none⟩ _ (.inr rfl)
          have HSV := Lib.hid (HUP.out _ _ HAV.out HQV.out)
          refine ⟨⟨i + 1, turnAt m r j, by omega, by omega, int_eq (by omega), RowsR.sch (HSV.out.congr fun r' hr' => ?_), turnAt_turn hT.out r j, HAV.out.below hB.out hwr (fun j' hj' e => by have e2 : g = j' := Option.some.inj e; have := HGW.out; omega)⟩, by simp [intOf]; omega⟩
          by_cases e : r' = r
          · subst e
            rw [updF_self]; exact HCT.out
          · rw [updF_ne _ _ e]
            congr 1
            unfold rowL turnAt
            refine List.map_congr_left fun i' _ => ?_
            rw [if_neg (fun h => e h.1)]
        · have HPT := Lib.hid (Patterns_any (some ⟨b1, o1, none⟩) n k h c1 wo.heap.size m wo (by omega) hn2 (by have := hh.out; omega) HNK.out HNH.out (HCP.out.turn hT.out) (fun i hi => patU_ne (HCA.out.turn hT.out) hn2 hi) hS.out.schK)
          have HTP : Hid (TourP n (tabM n m)) := tabM_tour (HCP.out.turn hT.out) (HCA.out.turn hT.out)
          have HCP2 := Lib.hid (HCP.out.turn hT.out)
          rcases (show (¬ i < len) ∨ (i < len ∧ ¬ i < 30) by omega) with hg | hg
          all_goals (first
            | (have g1 : ¬ (i : Int) < (len : Int) := by omega
               go_upto_region 22 with (go_at_call 8; refine HPT.out.mono ?_; rintro e w2 ⟨v2, rfl, hq2, hB2⟩; obtain ⟨p2, c2, hv2⟩ := hq2.isSlice; subst hv2; have HQ2 := Lib.hid hq2; have HB2 := Lib.hid hB2; clear hq2 hB2))
            | (have g1 : (i : Int) < (len : Int) := by omega
               have g2 : ¬ (i : Int) < 30 := by omega
               go_upto_region 22 with (go_at_call 8; refine HPT.out.mono ?_; rintro e w2 ⟨v2, rfl, hq2, hB2⟩; obtain ⟨p2, c2, hv2⟩ := hq2.isSlice; subst hv2; have HQ2 := Lib.hid hq2; have HB2 := Lib.hid hB2; clear hq2 hB2)))
          all_goals
            (have HS2 : Hid (SchK w2 wo.heap.size (some ⟨b1, o1, none⟩) k h m) := hS.out.schK.keep (KeepsM.of_below HB2.out (Nat.le_refl _))
             have HBW : Hid (Below w.heap.size w w2) := hB.out.trans (HB2.out.mono hwr)
             have q1 : ((n : Int) != (n : Int)) = false := by simp
             obtain ⟨vb, hvb1, hvb2, hmb⟩ := makeBools n (by omega)
             obtain ⟨y1, hy1, hya, hyb, hyc⟩ := info_parts infoBools
             have HVB1 := Lib.hid hvb1
             have HVB2 := Lib.hid hvb2
             clear hvb1 hvb2 hS hT hB hwr HPT
             go_upto_region 26 with (fail)
             go_loopw [14, 15] (fun s14 s15 wr => ∃ i : Nat, i ≤ n ∧ s15 = .int .i64 (i : Int) ∧ Hid (RowsR wr w2.heap.size 33 4 1 s14 i n (fun _ => bv (fun _ => false) n)) ∧ Hid (Below w2.heap.size w2 wr)) (fun _ s15 _ => n - (intOf s15).toNat)
             case atStart => exact ⟨0, by omega, rfl, RowsR.nil _ _ _ _ _ _ _, Below.refl _ _⟩
             case round =>
               obtain ⟨i, hi, rfl, hR, hB⟩ := hrel
               obtain ⟨p14, c14, rfl⟩ := hR.out.isSlice
               have hwr : w2.heap.size ≤ wr.heap.size := hB.out.size
               by_cases hin : i < n
               · have g1 : (i : Int) < (n : Int) := by omega
                 obtain ⟨xs, h1, h2, h3, h4⟩ := hR.out.lts
                 have HX1 := Lib.hid ((h1.alloc (.cells vb 4)).alloc (.cells #[.slice (some ⟨wr.heap.size, 0, none⟩) n n] 33))
                 have HX2 : Hid (∀ r, r < i → ∃ p c, xs[r]? = some (.slice p n c) ∧ QRow ((wr.alloc (.cells vb 4)).alloc (.cells #[.slice (some ⟨wr.heap.size, 0, none⟩) n n] 33)) w2.heap.size 4 1 (.slice p n c) n (bv (fun _ => false) n)) := fun r hr => by
                   obtain ⟨p, c, e1, e2⟩ := h2 r hr
                   exact ⟨p, c, e1, (e2.alloc _).alloc _⟩
                 have HX3 := Lib.hid h3
                 have HX4 : Hid (∀ r x b, r < i → xs[r]? = some x → x.ownBlock = some b → (Value.slice (some ⟨wr.heap.size, 0, none⟩) n n).ownBlock ≠ some b) := fun r x b hr hx hb e => by
                   have := h4 r x b hr hx hb
                   have e2 : wr.heap.size = b := Option.some.inj e
                   omega
                 have HX5 : Hid (QRow ((wr.alloc (.cells vb 4)).alloc (.cells #[.slice (some ⟨wr.heap.size, 0, none⟩) n n] 33)) w2.heap.size 4 1 (.slice (some ⟨wr.heap.size, 0, none⟩) n n) n (bv (fun _ => false) n)) := (qrow_bools wr n vb _ hwr (by unfold maxLen; omega) HVB1.out HVB2.out).alloc _
                 have HB6 : Hid (Below w2.heap.size w2 ((wr.alloc (.cells vb 4)).alloc (.cells #[.slice (some ⟨wr.heap.size, 0, none⟩) n n] 33))) := (hB.out.alloc hwr _).alloc (by simp; omega) _
                 have HLT := Lib.hid (fun kk (e : _ = some kk) => (h1.lt kk e).1)
                 have HCN := Lib.hid (cells_new1 (wr.alloc (.cells vb 4)) 33 (.slice (some ⟨wr.heap.size, 0, none⟩) n n))
                 rw [show (wr.alloc (.cells vb 4)).heap.size = wr.heap.size + 1 by simp] at HCN
                 clear h1 h2 h3 h4 hR hB
                 go_wp2_with (at_builtin; go_must (refine wpList_append_q _ rfl (.tmp 180) (.tmp 183) 32 rfl w2.heap.size 33 y1 (.slice none 0 0) 1 24 underTable hy1 hya hyb hyc rfl (by decide) _ i xs rfl HX1.out ⟨_, 0, none⟩ 1 1 [.slice (some ⟨wr.heap.size, 0, none⟩) n n] rfl rfl HCN.out (by simp [Value.oneCell']) (by unfold maxLen; omega) (by omega) (by simp; omega) ?_); intro v5 w5 hq5 hg5 ho5; have HQ5 := Lib.hid hq5; have HG5 := Lib.hid hg5; clear hq5 hg5 ho5)
                 have HR5 : Hid (RowsR w5 w2.heap.size 33 4 1 v5 (i + 1) n (fun _ => bv (fun _ => false) n)) := RowsR.push (by decide) HX2.out HX1.out HX5.out HG5.out HQ5.out HX3.out HX4.out
                 have HB5 : Hid (Below w2.heap.size w2 w5) := Below.grown HB6.out HG5.out (by simp; omega) (fun kk e => HLT.out kk e)
                 exact ⟨⟨i + 1, by omega, int_eq (by omega), HR5, HB5⟩, by simp [intOf]; omega⟩
               · have g1 : ¬ (i : Int) < (n : Int) := by omega
                 obtain rfl : n = i := by omega
                 clear g1 hi hin
                 obtain ⟨w5, hwe⟩ : ∃ w5, Hid (w5 = wr) := ⟨_, rfl⟩
                 rw [← hwe.out] at hR hB ⊢
                 clear hwe
                 have HR0 : Hid (RowsR w5 w2.heap.size 33 4 1 (.slice p14 n c14) n n (fun a => bv ((fun _ _ => false) a) n)) := hR
                 have HBB := Lib.hid hB.out
                 clear hR hB
                 go_upto_region 30 with (fail)
                 go_loopw [16] (fun s16 wq => ∃ (r : Nat) (t : Nat → Nat → Bool), r ≤ k ∧ s16 = .int .i64 (r : Int) ∧ Hid (RowsR wq w2.heap.size 33 4 1 (.slice p14 n c14) n n (fun a => bv (t a) n)) ∧ Hid (∀ a b, t a b = true ↔ ∃ q ∈ allQ r h, m q.1 q.2 = (a, b)) ∧ Hid (Below w2.heap.size w2 wq)) (fun s16 _ => k - (intOf s16).toNat)
                 case atStart => exact ⟨0, _, by omega, rfl, HR0, fun a b => by simp [allQ], HBB⟩
                 case round =>
                   clear HR0 HBB
                   obtain ⟨r, t, hr, rfl, hR, hT, hB⟩ := hrel
                   by_cases hrk : r < k
                   · have g1 : (r : Int) < (k : Int) := by omega
                     obtain ⟨b2, o2, e, hb2, hrows⟩ := HS2.out.2 (by omega)
                     cases e
                     obtain ⟨q3, cq, k1, hcs⟩ := hrows r hrk
                     obtain ⟨b', o', e, hb', hcs2⟩ := hcs (by omega)
                     subst e
                     have HKEEP : Hid (∀ W, Below w2.heap.size w2 W → W.cell? ⟨b1, o1 + r, none⟩ = some (.slice (some ⟨b', o', none⟩) h cq) ∧ ∀ i, i < h → W.cell? ⟨b', o' + i * 2, none⟩ = some (.int .i64 ((m r i).1 : Int)) ∧ W.cell? ⟨b', o' + i * 2 + 1, none⟩ = some (.int .i64 ((m r i).2 : Int))) := fun W hW => by
                       have hsz := HS2.out.1
                       exact ⟨(hW.cell (p := ⟨b1, o1 + r, none⟩) (show b1 < w2.heap.size by omega)).trans k1, fun i hi => ⟨(hW.cell (p := ⟨b', o' + i * 2, none⟩) (show b' < w2.heap.size by omega)).trans (hcs2 i hi).1, (hW.cell (p := ⟨b', o' + i * 2 + 1, none⟩) (show b' < w2.heap.size by omega)).trans (hcs2 i hi).2⟩⟩
                     clear hrows hcs hcs2 k1
                     obtain ⟨wo, hwo⟩ : ∃ wo, Hid (wo = wr) := ⟨_, rfl⟩
                     rw [← hwo.out] at hR hB ⊢
                     clear hwo
                     have k1 := (HKEEP.out wo hB.out).1
                     have HT0 : Hid (∀ a b, t a b = true ↔ ∃ q ∈ allQ r h ++ (List.range 0).map (fun i => (r, i)), m q.1 q.2 = (a, b)) := by unfold Hid; simpa using hT.out
                     go_upto_region 33 with (fail)
                     go_loopw [17] (fun s17 wq => ∃ (i : Nat) (t : Nat → Nat → Bool), i ≤ h ∧ s17 = .int .i64 (i : Int) ∧ Hid (RowsR wq w2.heap.size 33 4 1 (.slice p14 n c14) n n (fun a => bv (t a) n)) ∧ Hid (∀ a b, t a b = true ↔ ∃ q ∈ allQ r h ++ (List.range i).map (fun i => (r, i)), m q.1 q.2 = (a, b)) ∧ Hid (Below w2.heap.size w2 wq)) (fun s17 _ => h - (intOf s17).toNat)
                     case atStart => exact ⟨0, t, by omega, rfl, hR, HT0, hB⟩
                     case round =>
                       clear hR hT hB HT0 k1 t
                       obtain ⟨i, t, hi, rfl, hR, hT, hB⟩ := hrel
                       obtain ⟨k1, hcs⟩ := HKEEP.out _ hB.out
                       by_cases hih : i < h
                       · have g2 : (i : Int) < (h : Int) := by omega
                         have c1 := (hcs i hih).1
                         have c2 := (hcs i hih).2
                         clear hcs
                         have hrng := HCP2.out.rng r i (by rw [HNK.out]; exact hrk) (by rw [HNH.out]; exact hih)
                         have HSN : Hid (∀ a b, markT t (m r i).1 (m r i).2 a b = true ↔ ∃ q ∈ allQ r h ++ (List.range (i + 1)).map (fun i => (r, i)), m q.1 q.2 = (a, b)) := fun a b => by
                           rw [List.range_succ, List.map_append, ← List.append_assoc]
                           unfold markT
                           rw [Bool.or_eq_true, hT.out a b, Bool.and_eq_true, decide_eq_true_eq, decide_eq_true_eq]
                           constructor
                           · rintro (⟨q, hq, e⟩ | ⟨rfl, rfl⟩)
                             · exact ⟨q, List.mem_append_left _ hq, e⟩
                             · exact ⟨(r, i), List.mem_append_right _ (by simp), rfl⟩
                           · rintro ⟨q, hq, e⟩
                             rcases List.mem_append.1 hq with hq | hq
                             · exact .inl ⟨q, hq, e⟩
                             · right
                               simp only [List.map_cons, List.map_nil, List.mem_singleton] at hq
                               rw [hq] at e
                               exact ⟨by rw [e], by rw [e]⟩
                         generalize (m r i).1 = u at *
                         generalize (m r i).2 = v at *
                         obtain ⟨hun, hvn, _⟩ := hrng
                         have g3 : (u : Int) < (n : Int) := by omega
                         have g4 : (v : Int) < (n : Int) := by omega
                         obtain ⟨bt, ot, capt, p, c, e, hbt, kt, hqt, hup⟩ := hR.out.at (by decide) hun
                         cases e
                         obtain ⟨g, og, capg, e, hgw, hg, _, _, hcc, _⟩ := hqt.at (by omega)
                         cases e
                         have cg : wr.cell? ⟨g, og + v, none⟩ = some (.bool (t u v)) := (hcc v (by omega)).trans (bv_get _ _ v hvn)
                         have fg : wr.frozen? ⟨g, og + v, none⟩ = false := by
                           rcases hqt.2 with ⟨e, _⟩ | ⟨g', o', cap', cur, e, _, hgo, _⟩
                           · cases e
                           · cases e
                             exact (show BoxN wr g 4 cur from hgo).frozen _
                         have HQV : Hid (QRow (wr.setCell ⟨g, og + v, none⟩ (.bool true)) w2.heap.size 4 1 (.slice (some ⟨g, og, none⟩) n c) n ((bv (t u) n).set v (.bool true))) := hqt.set v (by omega) _
                         have HAV : Hid (Ag (fun j => (Value.slice (some ⟨g, og, none⟩) n c).ownBlock = some j) wr (wr.setCell ⟨g, og + v, none⟩ (.bool true))) := (Ag.refl _ _).set ⟨g, og + v, none⟩ _ (.inr rfl)
                         have HSV := Lib.hid (hup _ _ HAV.out HQV.out)
                         have HRV : Hid (RowsR (wr.setCell ⟨g, og + v, none⟩ (.bool true)) w2.heap.size 33 4 1 (.slice (some ⟨bt, ot, none⟩) n c14) n n (fun a => bv (markT t u v a) n)) := HSV.out.congr fun r' _ => by
                           by_cases e : r' = u
                           · subst e
                             rw [updF_self]; exact bv_set t r' v n hvn
                           · rw [updF_ne _ _ e]; exact markT_row t u v n r' e
                         have HBV : Hid (Below w2.heap.size w2 (wr.setCell ⟨g, og + v, none⟩ (.bool true))) := HAV.out.below hB.out hB.out.size (fun j' hj' e => by have e2 : g = j' := Option.some.inj e; omega)
                         clear hR hT hB hup hqt hcc HQV HAV HSV
                         go_wp2
                         exact ⟨⟨i + 1, _, by omega, int_eq (by omega), HRV, HSN, HBV⟩, by simp [intOf]; omega⟩
                       · have g2 : ¬ (i : Int) < (h : Int) := by omega
                         obtain rfl : h = i := by omega
                         have HTN : Hid (∀ a b, t a b = true ↔ ∃ q ∈ allQ (r + 1) h, m q.1 q.2 = (a, b)) := by unfold Hid; rw [allQ_succ]; exact hT.out
                         go_wp2
                         exact ⟨⟨r + 1, t, by omega, int_eq (by omega), hR, HTN, hB⟩, by simp [intOf]; omega⟩
                   · have g1 : ¬ (r : Int) < (k : Int) := by omega
                     obtain rfl : k = r := by omega
                     have HR1 : Hid (RowsR wr w2.heap.size 33 4 1 (.slice p14 n c14) n n (fun a => bv (tabM n m a) n)) := hR.out.congr fun r' _ => by
                       have e : t r' = tabM n m r' := by
                         funext b
                         rw [Bool.eq_iff_iff, hT.out r' b, tabM_all HNK.out HNH.out]
                       rw [e]
                     have HSC := Lib.hid (Scores_ok p14 n c14 (tabM n m) wr (by omega) hn16 HTP.out HR1.out.tbl)
                     have HBR := Lib.hid hB.out
                     clear hR hT hB HR1
                     go_upto_region 40 with (go_at_call 9; refine HSC.out.mono ?_; rintro e w8 ⟨⟨p3, c3, rfl, hq3⟩, hB3⟩; have HQ3 := Lib.hid hq3; have HB3 := Lib.hid hB3; clear hq3 hB3)
                     have HQ8 : Hid (QRow w8 wo.heap.size 9 1 (.slice p2 n c2) n (strL (patU (msL n m)) n)) := (HQ2.out.below HBR.out (fun k hk => (HQ2.out.lt k hk).2)).below HB3.out (fun k hk => Nat.lt_of_lt_of_le (HQ2.out.lt k hk).2 HBR.out.size)
                     have hB8 : Hid (Below w.heap.size w w8) := HBW.out.trans ((HBR.out.mono HBW.out.size).trans (HB3.out.mono (Nat.le_trans HBW.out.size HBR.out.size)))
                     obtain ⟨b8, o8, cap8, e, _, hb8, _, _, hc8, _⟩ := HQ8.out.at (by omega)
                     cases e
                     have HSV : Hid (SrcI w8 p3 n (fun i => ((cnt (tabM n m i) n : Nat) : Int))) := HQ3.out.srcI (fun j hj => ivI_get _ _ j hj)
                     have HC8 : Hid (∀ i, i < n → w8.cell? ⟨b8, o8 + i, none⟩ = some (.string ⟨(patU (msL n m) i).toArray⟩)) := fun i hi => (hc8 i (by omega)).trans (strL_get _ hi)
                     obtain ⟨b9, o9, cap9, e, _, hb9, hcap9, _, hc9, _⟩ := HQ3.out.at (by omega)
                     cases e
                     have HC9 : Hid (∀ i, i < n → w8.cell? ⟨b9, o9 + i, none⟩ = some (.int .i64 ((cnt (tabM n m i) n : Nat) : Int))) := fun i hi => (hc9 i (by omega)).trans (ivI_get _ _ i hi)
                     have HCN : Hid (∀ i, cntH (patU (msL n m) i) = cnt (tabM n m i) n) := fun i => by rw [cntH_pat, home_cnt HCP2.out]
                     have HLE : Hid (∀ i, (patU (msL n m) i).length ≤ 66) := fun i => Nat.le_trans (patU_len _ i) (by rw [ms_len, HNK.out, HNH.out]; exact Nat.mul_le_mul hk11 hh6)
                     have HSH := Lib.hid (Short_no _ n c3 _ w8 (by omega) hn16 hcap9 (ScP.of HTP.out hn16) (HSV.out.same (fun j hj => by show _ = (((if j < n then _ else _ : Nat)) : Int); rw [if_pos hj])))
                     clear hc8 hc9 HSC HQ8 HSV HTP HCP2 HS2
                     go_upto_region 41 with (fail)
                     go_loopw [21] (fun s21 wq => ∃ i : Nat, i ≤ n ∧ s21 = .int .i64 (i : Int) ∧ Hid (w8 = wq)) (fun s21 _ => n - (intOf s21).toNat)
                     case atStart => exact ⟨0, by omega, rfl, rfl⟩
                     case round =>
                       obtain ⟨i, hi, rfl, hw⟩ := hrel
                       rw [← hw.out]
                       clear hw
                       by_cases hin : i < n
                       · have g2 : (i : Int) < (n : Int) := by omega
                         have k8 := HC8.out i hin
                         have k9 := HC9.out i hin
                         have hl := HLE.out i
                         have HCI := Lib.hid (HCN.out i)
                         generalize patU (msL n m) i = l at *
                         generalize cnt (tabM n m i) n = N at *
                         obtain ⟨L, hL⟩ : ∃ L, Hid (l.length = L) := ⟨_, rfl⟩
                         obtain ⟨s, hs⟩ : ∃ s : ByteArray, Hid (s = ⟨l.toArray⟩) := ⟨_, rfl⟩
                         have hsz : s.size = L := by rw [hs.out, ← hL.out]; exact List.size_toArray
                         rw [← hs.out] at k8
                         rw [hL.out] at hl
                         have q9 : ((N : Int) != (N : Int)) = false := by simp
                         go_upto_region 45 with (fail)
                         go_loopw [22, 23] (fun s22 s23 wq => ∃ x : Nat, x ≤ L ∧ s22 = .int .i64 (cntH (l.take x) : Int) ∧ s23 = .int .i64 (x : Int) ∧ Hid (w8 = wq)) (fun _ s23 _ => L - (intOf s23).toNat)
                         case atStart => exact ⟨0, by omega, rfl, rfl, rfl⟩
                         case round =>
                           obtain ⟨x, hx, rfl, rfl, hw⟩ := hrel
                           rw [← hw.out]
                           clear hw
                           by_cases hxl : x < L
                           · have g3 : (x : Int) < (L : Int) := by omega
                             have hxl' : x < l.length := by rw [hL.out]; exact hxl
                             have hix := idxS l s hs.out x hxl' w8
                             have HTK := Lib.hid (cntH_take l x hxl')
                             have hcb := cntH_le l x
                             by_cases e72 : l[x] = 72
                             · rw [if_pos e72] at HTK
                               rw [e72] at hix
                               replace hix : Sem.run Try.prog (Instr.index 9 (.string s) (.int .i64 (x : Int))) w8 = .ok (.int .u8 72) w8 := hix
                               generalize cntH (l.take x) = C at *
                               go_wp2
                               exact ⟨⟨x + 1, by omega, int_eq (by rw [HTK.out]; omega), int_eq (by omega), (by first | exact trivial | exact rfl)⟩, by simp [intOf]; omega⟩
                             · rw [if_neg e72] at HTK
                               have e73 : ¬ (((l[x]).toNat : Nat) : Int) = 72 := fun h => e72 (UInt8.toNat_inj.1 (by show _ = 72; omega))
                               generalize cntH (l.take x) = C at *
                               generalize (l[x]).toNat = y at *
                               go_wp2
                               exact ⟨⟨x + 1, by omega, int_eq (by rw [HTK.out]; omega), int_eq (by omega), (by first | exact trivial | exact rfl)⟩, by simp [intOf]; omega⟩
                           · have g3 : ¬ (x : Int) < (L : Int) := by omega
                             obtain rfl : L = x := by omega
                             have HEQ : cntH (l.take L) = N := by rw [← hL.out, List.take_length]; exact HCI.out
                             rw [HEQ]
                             go_wp2
                             exact ⟨⟨i + 1, by omega, int_eq (by omega), (by first | exact trivial | exact rfl)⟩, by simp [intOf]; omega⟩
                       · have g2 : ¬ (i : Int) < (n : Int) := by omega
                         go_upto_region 52 with (go_at_call 10; refine HSH.out.mono ?_; rintro e w9 ⟨rfl, hB9⟩; have HB9 := Lib.hid (hB8.out.trans (hB9.mono hB8.out.size)); clear hB9)
                         have HTEN := Lib.hid (ten_any w9)
                         go_wp2_with (go_at_call 11; refine HTEN.out.mono ?_; rintro e w10 ⟨rfl, hB10⟩; have HB10 := Lib.hid (HB9.out.trans (hB10.mono HB9.out.size)); clear hB10)
                         try go_ret
                         exact ⟨rfl, HB10.out⟩)
end Go.Proofs.Ytbioondlmgolkaa
namespace Go.Proofs.Ytbioondlmgolkaa.topHomes
open Go.ChangeShapes Go.WideShapes Go.ChangeAt Go.RowKit
set_option linter.unusedVariables false
set_option maxRecDepth 100000 in
theorem lifted (os : Os) (started : os.Started) (H : Type) (enc : TypeId × Value → H) :
    ReturnsInHanded {} Try.checked os 3 .any (Rows.topHomesSpec.pre6 enc Try.prog Try.f3 Rows.topHomesRow.domain false) (Rows.topHomesSpec.post enc Try.prog Try.f3 false true false false) := by
  refine returnsInHanded_of_change (C := Try.checked) own_knob started (by kernel_rfl) Try.func3
    (ChangeSpec.witness6 (enc := enc) (C := Try.checked) false ⟨#[], #[.int .i64 0, .slice none 0 0], []⟩ 8 (by kernel_rfl) (by kernel_rfl) (by kernel_rfl) (by kernel_rfl)) ?_
  intro W base args ds gs before hval0 hW hcnd _
  have hval : ∀ (j : Nat) t v, Try.f3.params[j]? = some t → args[j]? = some v → Value.okWide Try.prog W .any base t v := hval0
  have hW' := hW
  obtain ⟨p, q, hA0, hV, rfl, hfz, hnd⟩ := hW
  have hA : DataW.TrodAll enc Try.prog W 0 (fun _ => true) true Try.f3.params.toList args.toList ds p := hA0
  rw [Try.params3] at hA hval
  obtain ⟨v0, vs0, d0, ds0, p0, q0, hargs, rfl, rfl, h0, r0⟩ := trodAll_cons hA
  obtain ⟨v1, vs1, d1, ds1, p1, q1, rfl, rfl, rfl, h1, r1⟩ := trodAll_cons r0
  obtain ⟨rfl, rfl, rfl⟩ := trodAll_nil r1
  obtain rfl : args = #[v0, v1] := by cases args; simp_all
  obtain ⟨rfl, rfl⟩ := trodVars_none hV
  obtain ⟨a0, rfl, rfl, rfl, w0⟩ := open_int Try.underlying3 (hval 0 3 v0 rfl rfl) h0
  obtain ⟨a1, len1, cap1, rfl⟩ := okWide_slice Try.underlying22 (hval 1 22 v1 rfl rfl)
  have k1 := h1
  have lt1 : ∀ x ∈ p1, x.block < W.heap.size := by obtain ⟨m, hm⟩ := k1; exact DataW.trod_lt m _ _ _ hm
  obtain ⟨ps, hps, rfl⟩ := open_pairs h1
  clear hA0 hval0
  refine (lawH a0 a1 cap1 ps W hps).mono fun e W' ⟨he, bel⟩ => ?_
  subst he
  exact ⟨_, rfl, _, _, _, [], _, [], hW', trodAll_mk1 (shut_bool Try.underlying4 _), (trodAll_cons_mk (shut_int Try.underlying3 w0) (trodAll_cons_mk (Below.trod laid_out (by kernel_rfl) (of_decide_eq_true (by kernel_rfl)) k1 bel lt1) trodAll_mk0)), rfl, bel.frame _, fun h => by cases h⟩
theorem over : Rows.topHomesRow.holds Try.pinned (OpenSpec.ofChange Rows.topHomesSpec) :=
  OpenClaim.holds_of_wide 3 Try.f3 rfl rfl rfl rfl rfl rfl rfl ⟨rfl, rfl, rfl, rfl, rfl⟩ rfl rfl rfl rfl rfl (by kernel_rfl) Try.func3 (by kernel_rfl)
    (of_decide_eq_true (by kernel_rfl)) (by unfold Func.isWrapper; first | (rw [if_pos (by decide +kernel)]; kernel_rfl) | (rw [if_neg (by decide +kernel)]; exact ⟨rfl, rfl⟩))
    (fun os started H enc _ => lifted os started H enc)
end Go.Proofs.Ytbioondlmgolkaa.topHomes
namespace Go.Proofs.Ytbioondlmgolkaa
/-- THE STATEMENT -/
theorem topHomes_holds : Rows.TopHomesSaid := topHomes.over
#print axioms topHomes_holds
end Go.Proofs.Ytbioondlmgolkaa
