/- Balanced where there is none; breaks. Walks. What the program does whatever the input is. The reference: Rises, together. Walks. Rounds of pairs of any integers, in plain text and in memory; the reference: Even. The reference: IsTriples. Walk. The reference: IsDays. Walk. The reference: Check, of rounds of any integers. Walk. -/
import Derived.Test.YtocnhikohfkcaaaG320
import Derived.Test.YtocnhikohfkcaaaG321
import Derived.BigRegion
set_option linter.unusedVariables false
set_option linter.unusedSimpArgs false
namespace Go.Proofs.Ytocnhikohfkcaaa
open Go.RowKit Go.Shelf
attribute [local go_sem] Oper.semAt_some

set_option maxRecDepth 100000 in
theorem Balanced_none (n : Nat) (w : World) (h2 : 2 ≤ n) (h16 : n ≤ 16) (hev : n % 2 = 0) (hn : n ≠ 4 ∧ n ≠ 8 ∧ n ≠ 16) :
    Calls Try.prog 11 #[.int .i64 (n : Int)] w fun e w' => e = .returned (.tuple #[.slice none 0 0, .int .i64 4]) ∧ Below w.heap.size w w' := by
  have HI := Lib.hid (fun W => isRight_yes n W h2 h16 hev)
  have q1 : ((n : Int) == 4) = false := by simp; omega
  have q2 : ((n : Int) == 8) = false := by simp; omega
  have q3 : ((n : Int) == 16) = false := by simp; omega
  have HX : Hid (Boxed (w.alloc (.cells #[.int .i64 (n : Int)] 3)) w.heap.size 3 (.int .i64 (n : Int))) := boxed_at rfl
  have HB : Hid (Below w.heap.size w ((w.alloc (.cells #[.int .i64 (n : Int)] 3)).alloc (.cells #[.int .i64 0] 3))) := ((Below.refl _ _).alloc (Nat.le_refl _) _).alloc (by simp) _
  clear hn
  go_enter Try.func11, Try.ntmps11
  go_wp2_with (go_at_call 35; refine (HI.out _).mono ?_; rintro e w4 ⟨rfl, hw4⟩; replace hw4 := hw4.symm; subst hw4; try dsimp only)
  refine bodyPost_ret (v := .tuple #[.slice none 0 0, .int .i64 4]) (by simp [results, Try.f11, go_sem]) rfl ?_
  exact ⟨rfl, HB.out⟩
/-- how often a byte is as the one before it, of the first r -/
def brk (l : List UInt8) : Nat → Nat
  | 0 => 0
  | r + 1 => brk l r + if 1 ≤ r ∧ l[r]? = l[r - 1]? then 1 else 0
def brkS (f : Nat → List UInt8) : Nat → Nat
  | 0 => 0
  | i + 1 => brkS f i + brk (f i) (f i).length
theorem brk_le (l : List UInt8) : ∀ r, brk l r ≤ r
  | 0 => Nat.le_refl _
  | r + 1 => by
    unfold brk
    have := brk_le l r
    split <;> omega
theorem idxS (l : List UInt8) (s : ByteArray) (hs : s = ⟨l.toArray⟩) (x : Nat) (h : x < l.length) (W : World) : Sem.run Try.prog (Instr.index 9 (.string s) (.int .i64 (x : Int))) W = .ok (.int .u8 ((l[x]).toNat : Int)) W := by
  subst hs
  have h2 : (x : Int) < ((⟨l.toArray⟩ : ByteArray).size : Int) := by
    have : (⟨l.toArray⟩ : ByteArray).size = l.length := List.size_toArray
    omega
  rw [run_index_string W 9 _ .i64 _ (by kernel_rfl), dif_pos ⟨by omega, h2⟩]
  rfl
theorem strL_get (f : Nat → List UInt8) {n i : Nat} (hi : i < n) : (strL f n)[i]? = some (.string ⟨(f i).toArray⟩) := by unfold strL; rw [List.getElem?_map, List.getElem?_range hi]; rfl
theorem pat_bound {n k h : Nat} {m : Nat → Nat → Nat × Nat} (hn : n ≤ 16) (i : Nat) : (patU (msL n m) i).length ≤ 120 := by
  refine Nat.le_trans (patU_len _ i) ?_
  rw [ms_len]
  exact Nat.le_trans (Nat.mul_le_mul (show n - 1 ≤ 15 by omega) (show n / 2 ≤ 8 by omega)) (by decide)
theorem brkS_le {f : Nat → List UInt8} (h : ∀ i, (f i).length ≤ 120) : ∀ i, brkS f i ≤ i * 120
  | 0 => by simp [brkS]
  | i + 1 => by
    unfold brkS
    have h1 := brkS_le h i
    have h2 := brk_le (f i) (f i).length
    have h3 := h i
    omega
set_option maxRecDepth 100000 in
set_option maxHeartbeats 4000000 in
theorem Breaks_ok (p : Option Addr) (n k h c K : Nat) (m : Nat → Nat → Nat × Nat) (w : World) (hn : n ≤ 16) (hn2 : 2 ≤ n) (hev : n % 2 = 0) (hk : n - 1 = k) (hh : n / 2 = h) (hP : SchP n m) (hPN : ∀ i, i < n → patU (msL n m) i ≠ []) (hS : SchK w K p k h m) :
    Calls Try.prog 27 #[.int .i64 (n : Int), .slice p k c] w fun e w' => e = .returned (.tuple #[.int .i64 (brkS (patU (msL n m)) n : Int), .int .i64 0]) ∧ Below w.heap.size w w' := by
  have HC := Lib.hid (callsIn_wide.1 (Check_in p n k h c K m w hn hn2 hev hk hh hP hS))
  have HPA := Lib.hid (fun w' hw => callsIn_wide.1 (patterns_in p n k h c K m w' hn hn2 hk hh hP hPN (hS.keep (W' := w') hw)))
  have HKK := Lib.hid hS.1
  have HPB := Lib.hid (fun i => pat_bound (k := k) (h := h) (m := m) hn i)
  have HPNE := Lib.hid hPN
  have HSL := Lib.hid (brkS_le HPB.out)
  clear hP hPN hS hev hk hh
  generalize patU (msL n m) = pt at *
  go_enter Try.func27, Try.ntmps27
  go_upto_region 6 with (first
    | (go_at_call 26; refine HC.out.mono ?_; rintro e w4 ⟨rfl, hB4⟩; have HB4 := Lib.hid hB4; have HP4 := Lib.hid (HPA.out w4 (KeepsM.of_below hB4 HKK.out)); clear hB4)
    | (go_at_call 51; refine HP4.out.mono ?_; rintro e w5 ⟨v5, rfl, hq5, hB5⟩; obtain ⟨pq, cq, hv5⟩ := hq5.isSlice; subst hv5; have HQ5 := Lib.hid hq5; have HB5 := Lib.hid hB5; clear hq5 hB5))
  obtain ⟨b5, o5, cap5, e, _, hb5, _, _, hc5, _⟩ := HQ5.out.at (by omega)
  cases e
  have HC5 := Lib.hid hc5
  have hW5 : Hid (Below w.heap.size w w5) := HB4.out.trans (HB5.out.mono HB4.out.size)
  clear hc5 HC HPA HP4
  go_loopw [7, 21] (fun s7 s21 wr => ∃ i : Nat, i ≤ n ∧ s21 = .int .i64 (i : Int) ∧ s7 = .int .i64 (brkS pt i : Int) ∧ Hid (Below w5.heap.size w5 wr)) (fun _ s21 _ => n - (intOf s21).toNat)
  case atStart => exact ⟨0, by omega, rfl, rfl, Below.refl _ _⟩
  case round =>
    obtain ⟨i, hi, rfl, rfl, hB⟩ := hrel
    by_cases hin : i < n
    · have g1 : (i : Int) < (n : Int) := by omega
      have k5 : wr.cell? ⟨b5, o5 + i, none⟩ = some (.string ⟨(pt i).toArray⟩) := (hB.out.cell (p := ⟨b5, o5 + i, none⟩) hb5).trans ((HC5.out i (by omega)).trans (strL_get pt hin))
      have HNE := Lib.hid (HPNE.out i hin)
      have hl := HPB.out i
      have hsl := HSL.out i
      have HSN : Hid (brkS pt (i + 1) = brkS pt i + brk (pt i) (pt i).length) := rfl
      generalize brkS pt i = S at *
      generalize pt i = l at *
      obtain ⟨L, hL⟩ : ∃ L, Hid (l.length = L) := ⟨_, rfl⟩
      obtain ⟨s, hs⟩ : ∃ s : ByteArray, Hid (s = ⟨l.toArray⟩) := ⟨_, rfl⟩
      have hsz : s.size = L := by rw [hs.out, ← hL.out]; exact List.size_toArray
      have hL1 : 1 ≤ L := by
        rw [← hL.out]
        exact Nat.succ_le_of_lt (List.length_pos_iff.2 HNE.out)
      rw [← hs.out] at k5
      rw [hL.out] at hl HSN
      go_upto_region 9 with (fail)
      go_loopw [7, 10] (fun s7 s10 wq => ∃ r : Nat, 1 ≤ r ∧ r ≤ L ∧ s10 = .int .i64 (r : Int) ∧ s7 = .int .i64 ((S + brk l r : Nat) : Int) ∧ Hid (Below w5.heap.size w5 wq)) (fun _ s10 _ => L - (intOf s10).toNat)
      case atStart => exact ⟨1, by omega, by omega, rfl, int_eq (by simp [brk]), hB⟩
      case round =>
        clear hB k5
        obtain ⟨r, hr1, hrL, rfl, rfl, hB⟩ := hrel
        by_cases hrl : r < L
        · have g2 : (r : Int) < (L : Int) := by omega
          have hr' : r < l.length := by rw [hL.out]; exact hrl
          have hr1' : r - 1 < l.length := by omega
          obtain ⟨x0, hx0⟩ : ∃ x : Nat, Hid ((l[r]'hr').toNat = x) := ⟨_, rfl⟩
          obtain ⟨x1, hx1⟩ : ∃ x : Nat, Hid ((l[r - 1]'hr1').toNat = x) := ⟨_, rfl⟩
          obtain ⟨r1, hrr⟩ : ∃ r1 : Nat, Hid (r - 1 = r1) := ⟨_, rfl⟩
          have hi1 : ∀ W, Sem.run Try.prog (Instr.index 9 (.string s) (.int .i64 (r : Int))) W = .ok (.int .u8 (x0 : Int)) W := fun W => by
            have := idxS l s hs.out r hr' W
            rw [hx0.out] at this
            exact this
          have hi2 : ∀ W, Sem.run Try.prog (Instr.index 9 (.string s) (.int .i64 (r1 : Int))) W = .ok (.int .u8 (x1 : Int)) W := fun W => by
            have := idxS l s hs.out (r - 1) hr1' W
            rw [hx1.out, hrr.out] at this
            exact this
          have e1 : (r : Int) - 1 = (r1 : Int) := by have := hrr.out; omega
          have hbl := brk_le l r
          have HBS : Hid (brk l (r + 1) = brk l r + if x0 = x1 then 1 else 0) := by
            unfold Hid
            rw [show brk l (r + 1) = brk l r + if 1 ≤ r ∧ l[r]? = l[r - 1]? then 1 else 0 from rfl, List.getElem?_eq_getElem hr', List.getElem?_eq_getElem hr1']
            congr 1
            by_cases he : x0 = x1
            · rw [if_pos he, if_pos ⟨hr1, by rw [UInt8.toNat_inj.1 (show (l[r]'hr').toNat = (l[r - 1]'hr1').toNat by rw [hx0.out, hx1.out]; exact he)]⟩]
            · rw [if_neg he, if_neg (fun h => he (by rw [← hx0.out, ← hx1.out, Option.some.inj h.2]))]
          have w1 : IntKind.i64.wrap (r1 : Int) = (r1 : Int) := by have := hrr.out; rw [IntKind.wrap_i64]; omega
          by_cases he : x0 = x1
          · rw [if_pos he] at HBS
            subst he
            generalize brk l r = B at *
            go_wp2
            go_quiet (fail)
            clear w1
            have HBq : Hid (Below w5.heap.size w5 (wr.drewN nq)) := below_dr hB.out nq
            clear hB
            generalize wr.drewN nq = wZ at *
            go_wp2
            exact ⟨⟨r + 1, by omega, by omega, int_eq (by omega), int_eq (by rw [HBS.out]; omega), HBq⟩, by simp [intOf]; omega⟩
          · rw [if_neg he] at HBS
            have q1 : ((x0 : Int) == (x1 : Int)) = false := by simp; omega
            generalize brk l r = B at *
            go_wp2
            go_quiet (fail)
            clear w1
            have HBq : Hid (Below w5.heap.size w5 (wr.drewN nq)) := below_dr hB.out nq
            clear hB
            generalize wr.drewN nq = wZ at *
            go_wp2
            exact ⟨⟨r + 1, by omega, by omega, int_eq (by omega), int_eq (by rw [HBS.out]; simp), HBq⟩, by simp [intOf]; omega⟩
        · have g2 : ¬ (r : Int) < (L : Int) := by omega
          obtain rfl : L = r := by omega
          go_wp2
          exact ⟨⟨i + 1, by omega, int_eq (by omega), int_eq (by rw [HSN.out]), hB⟩, by simp [intOf]; omega⟩
    · have g1 : ¬ (i : Int) < (n : Int) := by omega
      obtain rfl : n = i := by omega
      go_wp2
      refine bodyPost_ret (v := .tuple #[.int .i64 (brkS pt n : Int), .int .i64 0]) (by simp [results, Try.f27, go_sem]) rfl ?_
      exact ⟨rfl, hW5.out.trans (hB.out.mono hW5.out.size)⟩
end Go.Proofs.Ytocnhikohfkcaaa
namespace Go.Proofs.Ytocnhikohfkcaaa
open Go.RowKit Go.Shelf
attribute [local go_sem] Oper.semAt_some

theorem rowL_get (m : Nat → Nat → Nat × Nat) {r h i : Nat} (hi : i < h) : (rowL m r h)[i]? = some (((m r i).1 : Int), ((m r i).2 : Int)) := by unfold rowL; rw [List.getElem?_map, List.getElem?_range hi]; rfl
theorem cells_get (m : Nat → Nat → Nat × Nat) {r h i : Nat} (hi : i < h) : (pairCells (rowL m r h))[i * 2]? = some (.int .i64 ((m r i).1 : Int)) ∧ (pairCells (rowL m r h))[i * 2 + 1]? = some (.int .i64 ((m r i).2 : Int)) := by
  have := pairCells_get (rowL m r h) i (by rw [rowL_len]; exact hi)
  rw [rowL_get m hi] at this
  exact this
theorem SchR.schK {W : World} {base : Nat} {p : Option Addr} {k h c : Nat} {m : Nat → Nat → Nat × Nat} (H : SchR W base (.slice p k c) k h m) : SchK W W.heap.size p k h m := by
  refine ⟨Nat.le_refl _, fun hk => ?_⟩
  obtain ⟨xs, h1, h2, _⟩ := H
  obtain ⟨b, o, cap, e, _, hb, _, _, hc, _⟩ := h1.at (by omega)
  cases e
  refine ⟨b, o, rfl, hb, fun r hr => ?_⟩
  obtain ⟨q, cq, h3, h4⟩ := h2 r hr
  refine ⟨q, cq, (hc r (by omega)).trans h3, fun hh => ?_⟩
  obtain ⟨b', o', cap', e', _, hb', _, _, hc', _⟩ := h4.at (by omega)
  cases e'
  exact ⟨b', o', rfl, hb', fun i hi => ⟨(hc' (i * 2) (by omega)).trans (cells_get m hi).1, by
    have := (hc' (i * 2 + 1) (by omega)).trans (cells_get m hi).2
    rw [show o' + (i * 2 + 1) = o' + i * 2 + 1 by omega] at this
    exact this⟩⟩
theorem brk4 : brkS (patU (msL 4 (cir 4))) 4 = 2 := by decide +kernel
theorem pat4 : ∀ i, i < 4 → patU (msL 4 (cir 4)) i ≠ [] := by decide +kernel
theorem no_days7 : ¬ ((3 ≤ (7 : Int) ∧ (7 : Int) ≤ 27) ∧ DaysP (7 : Int).toNat []) := fun h => by
  have := h.2.tog.len
  simp at this
set_option maxRecDepth 100000 in
set_option maxHeartbeats 4000000 in
theorem awake_any (w : World) : Calls Try.prog 17 #[] w fun e w' => e = .returned (.bool true) ∧ Below w.heap.size w w' := by
  have HC : Hid (Calls Try.prog 10 #[.int .i64 4] w fun e w' => ∃ p c, e = .returned (.tuple #[.slice p 3 c, .int .i64 0]) ∧ SchK w' w'.heap.size p 3 2 (cir 4) ∧ Below w.heap.size w w') := by
    refine (Circle_ok 4 w (by decide) (by decide) (by decide)).mono ?_
    rintro e w' ⟨v, rfl, hS, hB⟩
    obtain ⟨p, c, rfl⟩ := hS.isSlice
    exact ⟨p, c, rfl, SchR.schK hS, hB⟩
  have HBR := Lib.hid (fun p c W (hS : SchK W W.heap.size p 3 2 (cir 4)) => Breaks_ok p 4 3 2 c W.heap.size (cir 4) W (by decide) (by decide) (by decide) rfl rfl (cir_sch (by decide)) pat4 hS)
  rw [brk4] at HBR
  have HTR := Lib.hid (fun W => Triples_ok 7 W (by decide) (by decide) (by decide))
  have HBA := Lib.hid (fun W => Balanced_none 6 W (by decide) (by decide) (by decide) (by decide))
  have HDA := Lib.hid (fun W => Days_ok 9 W (by decide))
  have HND : Hid (∀ W, Calls Try.prog 24 #[.int .i64 7, .slice none 0 0] W fun e w' => TellsP ((3 ≤ (7 : Int) ∧ (7 : Int) ≤ 27) ∧ DaysP (7 : Int).toNat []) e ∧ Below W.heap.size W w') := fun W => IsDays_any 7 none 0 [] W (by decide) (fun d hd => by cases hd) (by decide) (fun h => by simp at h)
  go_enter Try.func17, Try.ntmps17
  go_upto_region 2 with (go_at_call 10; refine HC.out.mono ?_; rintro e w1 ⟨p1, c1, rfl, hS, hB1⟩; have HS1 := Lib.hid hS; have HB1 := Lib.hid hB1; clear hS hB1)
  have HBK := Lib.hid (HBR.out p1 c1 w1 HS1.out)
  go_upto_region 6 with (first
    | (go_at_call 27; refine HBK.out.mono ?_; rintro e w2 ⟨rfl, hB2⟩; have HB2 := Lib.hid hB2; clear hB2)
    | (go_at_call 18; refine (HTR.out w2).mono ?_; rintro e w3 ⟨⟨q, d0, ys, rfl, hsy, hly, hz⟩, hB3⟩; have HSY := Lib.hid hsy; have HZ := Lib.hid hz; have HB3 := Lib.hid hB3; clear hsy hz hB3)
    | (go_at_call 11; refine (HBA.out w3).mono ?_; rintro e w4 ⟨rfl, hB4⟩; have HB4 := Lib.hid hB4; clear hB4)
    | (go_at_call 19; refine (HDA.out w4).mono ?_; rintro e w5 ⟨⟨v5, rfl, hd⟩, hB5⟩; have HD := Lib.hid hd; have HB5 := Lib.hid hB5; clear hd hB5))
  obtain ⟨p9, c9, ls, rfl, hlc, hl13, hdp, hsd, hdl⟩ := HD.out.src
  obtain ⟨len, hlen⟩ : ∃ len, Hid (ls.length = len) := ⟨_, rfl⟩
  rw [hlen.out] at hlc hl13
  simp only [hlen.out]
  have B2 : Hid (Below w.heap.size w w2) := HB1.out.trans (HB2.out.mono HB1.out.size)
  have B3 : Hid (Below w.heap.size w w3) := B2.out.trans (HB3.out.mono B2.out.size)
  have B4 : Hid (Below w.heap.size w w4) := B3.out.trans (HB4.out.mono B3.out.size)
  have B5 : Hid (Below w.heap.size w w5) := B4.out.trans (HB5.out.mono B4.out.size)
  have B15 : Below w1.heap.size w1 w5 := HB2.out.trans ((HB3.out.trans ((HB4.out.trans (HB5.out.mono HB4.out.size)).mono HB3.out.size)).mono HB2.out.size)
  have HS5 : SchK w5 w1.heap.size p1 3 2 (cir 4) := by
    obtain ⟨h1, h2⟩ := HS1.out
    refine ⟨B15.size, fun hk => ?_⟩
    obtain ⟨b, o, e, hb, hr⟩ := h2 hk
    refine ⟨b, o, e, hb, fun r hr' => ?_⟩
    obtain ⟨q, c, e1, e2⟩ := hr r hr'
    refine ⟨q, c, (B15.cell (p := ⟨b, o + r, none⟩) hb).trans e1, fun hh => ?_⟩
    obtain ⟨b', o', e3, hb', hc⟩ := e2 hh
    exact ⟨b', o', e3, hb', fun i hi => ⟨(B15.cell (p := ⟨b', o' + i * 2, none⟩) hb').trans (hc i hi).1, (B15.cell (p := ⟨b', o' + i * 2 + 1, none⟩) hb').trans (hc i hi).2⟩⟩
  clear B15
  obtain ⟨ly, HLY⟩ : ∃ ly, Hid (ys.length = ly) := ⟨_, rfl⟩
  have HTI : Hid (∀ W, Below w5.heap.size w5 W → Calls Try.prog 23 #[.int .i64 7, .slice q ly d0] W fun e w' => TellsP ((3 ≤ (7 : Int) ∧ (7 : Int) ≤ 27) ∧ SysP (7 : Int).toNat ys) e ∧ Below W.heap.size W w') := fun W hB => by
    have b35 : Below w3.heap.size w3 W := (HB4.out.trans (HB5.out.mono HB4.out.size)).trans (hB.mono (HB4.out.trans (HB5.out.mono HB4.out.size)).size)
    have hz := HZ.out.src.below b35 (Nat.le_refl _)
    rw [← HLY.out]
    refine IsTriples_any 7 q d0 ys W (Nat.le_trans hly (by omega)) ?_ hz ?_
    · exact (show QRow _ _ _ _ _ _ _ from HZ.out).fits.1
    · intro a ha
      rcases Nat.eq_zero_or_pos ys.length with h0 | h0
      · have h6 := HSY.out.tog.len
        simp [h0] at h6
      · exact hz.lt h0 a ha
  simp only [HLY.out]
  have HDI : Hid (∀ W, Below w5.heap.size w5 W → Calls Try.prog 24 #[.int .i64 9, .slice p9 len c9] W fun e w' => TellsP ((3 ≤ (9 : Int) ∧ (9 : Int) ≤ 27) ∧ DaysP (9 : Int).toNat ls) e ∧ Below W.heap.size W w') := fun W hB => by
    have := IsDays_any 9 p9 c9 ls W (by rw [hlen.out]; omega) (fun d hd => Nat.le_trans (hdl d hd) (by omega)) (by rw [hlen.out]; exact hlc) (hsd.below hB (Nat.le_refl _))
    rw [hlen.out] at this
    exact this
  obtain ⟨b1, o1, rfl, hb1, hrows⟩ := HS5.2 (by omega)
  obtain ⟨q1, cq, hrow, hcs⟩ := hrows 0 (by omega)
  obtain ⟨b2, o2, rfl, hb2, hcells⟩ := hcs (by omega)
  obtain ⟨hc0, hc1⟩ := hcells 0 (by omega)
  simp only [Nat.zero_mul, Nat.add_zero, Nat.zero_add] at hc0 hc1 hrow
  have c0 : w5.cell? ⟨b2, o2, none⟩ = some (.int .i64 3) := hc0
  have c1' : w5.cell? ⟨b2, o2 + 1, none⟩ = some (.int .i64 0) := hc1
  clear hc0 hc1 hcells hcs hrows HS5 hdl hsd
  clear HZ HLY hlen hly HS1 HD HDA HBA HTR HBR HC HBK HB1 HB2 HB3 HB4 HB5 B2 B3 B4
  have HB5' := B5
  clear B5
  have HT2 : Hid (Calls Try.prog 23 #[.int .i64 7, .slice q ly d0] w5 fun e w' => e = .returned (.bool true) ∧ Below w5.heap.size w5 w') := (HTI.out w5 (Below.refl _ _)).mono fun e w' h => ⟨h.1.yes ⟨by decide, HSY.out⟩, h.2⟩
  have HD2 : Hid (∀ W, Below w5.heap.size w5 W → Calls Try.prog 24 #[.int .i64 9, .slice p9 len c9] W fun e w' => e = .returned (.bool true) ∧ Below w5.heap.size w5 w') := fun W hW => (HDI.out W hW).mono fun e w' h => ⟨h.1.yes ⟨by decide, hdp⟩, hW.trans (h.2.mono hW.size)⟩
  have HN2 : Hid (∀ W, Below w5.heap.size w5 W → Calls Try.prog 24 #[.int .i64 7, .slice none 0 0] W fun e w' => e = .returned (.bool false) ∧ Below w5.heap.size w5 w') := fun W hW => (HND.out W).mono fun e w' h => ⟨h.1.no no_days7, hW.trans (h.2.mono hW.size)⟩
  clear HTI HDI HND hdp HSY
  have c0' : w5.cell? ((⟨b2, o2, none⟩ : Addr).add 1) = some (.int .i64 0) := c1'
  go_wp2_with (first
    | (go_at_call 23; refine HT2.out.mono ?_; rintro e w6 ⟨rfl, hB6⟩; have HB6 := Lib.hid hB6; clear hB6)
    | (go_at_call 24; (with_reducible refine (HD2.out w6 HB6.out).mono ?_); rintro e w7 ⟨rfl, hB7⟩; have HB7 := Lib.hid hB7; clear hB7)
    | (go_at_call 24; (with_reducible refine (HN2.out w7 HB7.out).mono ?_); rintro e w8 ⟨rfl, hB8⟩; have HB8 := Lib.hid hB8; clear hB8))
  go_ret
  exact ⟨rfl, HB5'.out.trans (HB8.out.mono HB5'.out.size)⟩
end Go.Proofs.Ytocnhikohfkcaaa
namespace Go.Proofs.Ytocnhikohfkcaaa
open Go.RowKit Go.Shelf
attribute [local go_sem] Oper.semAt_some

/-- n marks of bools -/
def MarkN (W : World) (R N : Nat) (mk : List Nat) : Prop := BoxN W R 4 ((List.range N).map fun i => Value.bool (mk.elem i)).toArray
theorem MarkN.cell {W : World} {R N : Nat} {mk : List Nat} (h : MarkN W R N mk) {i : Nat} (hi : i < N) : W.cell? ⟨R, i, none⟩ = some (.bool (mk.elem i)) := by
  have := BoxN.cell h i
  rw [this]
  simp [hi]
theorem MarkN.set {W : World} {R N : Nat} {mk : List Nat} (h : MarkN W R N mk) (i : Nat) : MarkN (W.setCell ⟨R, i, none⟩ (.bool true)) R N (mk ++ [i]) := by
  have h2 := BoxN.set h i (.bool true)
  unfold MarkN
  refine Eq.mp ?_ h2
  congr 1
  refine Array.ext_getElem? fun j => ?_
  by_cases hj : j < N
  · by_cases e : i = j
    · subst e
      rw [Array.getElem?_setIfInBounds_self_of_lt (by simpa using hj)]
      simp [hj]
    · rw [Array.getElem?_setIfInBounds_ne (by omega)]
      have : j ≠ i := fun h => e h.symm
      simp [hj, this]
  · rw [Array.getElem?_eq_none (by simp; omega), Array.getElem?_eq_none (by simp; omega)]
theorem infoBool : (Try.prog.info? 4).map (fun i => (i.zero, i.size, i.bytes)) = some (some (.bool false), 1, 1) := by kernel_rfl
theorem underBools : Try.prog.underlying 61 = some (.slice 4) := by kernel_rfl
theorem MarkN.frozen {W : World} {R N : Nat} {mk : List Nat} (h : MarkN W R N mk) (i : Nat) : W.frozen? ⟨R, i, none⟩ = false := BoxN.frozen h i
theorem MarkN.below {W W' : World} {R N k : Nat} {mk : List Nat} (h : MarkN W R N mk) (hB : Below k W W') (hk : R < k) : MarkN W' R N mk := BoxN.below h hB hk
theorem makeMarks (n : Nat) (hn : n ≤ 1000) : ∃ vs : Array Value, (∀ W : World, MarkN (W.alloc (.cells vs 4)) W.heap.size n []) ∧
    ∀ W : World, Sem.run Try.prog (Instr.makeSlice 61 (.int .i64 (n : Int)) (.int .i64 (n : Int))) W = .ok (.slice (some ⟨W.heap.size, 0, none⟩) n n) (W.alloc (.cells vs 4)) := by
  obtain ⟨i0, hi, hz0, hz1, hz2⟩ := info_parts infoBool
  have e : madeCells #[.bool false] n = ((List.range n).map fun i => Value.bool (([] : List Nat).elem i)).toArray := by
    refine Array.ext_getElem? fun j => ?_
    rw [← Array.getElem?_toList, toList_madeCells_one, List.getElem?_replicate]
    by_cases hj : j < n
    · rw [if_pos hj]; simp [hj]
    · rw [if_neg hj, Array.getElem?_eq_none (by simp; omega)]
  refine ⟨madeCells #[.bool false] n, fun W => ?_, fun W => ?_⟩
  · rw [e]
    exact BoxN.new rfl
  · have := run_make (P := Try.prog) W 61 4 i0 _ underBools hi hz0 .i64 .i64 (n : Int) (n : Int) (by omega) (Int.le_refl _) (by rw [hz2]; omega) (by omega)
    rw [hz1, show (Value.bool false).cells = #[.bool false] from rfl] at this
    simpa using this
set_option maxRecDepth 100000 in
set_option maxHeartbeats 2000000 in
theorem Rises_any (n : Nat) (x y z : Int) (w : World) : Calls Try.prog 44 #[.int .i64 (n : Int), .agg #[.int .i64 x, .int .i64 y, .int .i64 z]] w fun e w' => e = .returned (.bool (decide (RisesP n (x, y, z)))) ∧ Below w.heap.size w w' := by
  have HB1 : Hid (Below w.heap.size w (w.alloc (.cells #[.int .i64 x, .int .i64 y, .int .i64 z] 44))) := (Below.refl _ _).alloc (Nat.le_refl _) _
  by_cases h : RisesP n (x, y, z)
  · have h' := h
    rw [decide_eq_true h]
    obtain ⟨h1, h2, h3, h4⟩ := h'
    simp only at h1 h2 h3 h4
    clear h
    go_enter Try.func44, Try.ntmps44
    go_wp2
    go_ret
    exact ⟨rfl, HB1.out⟩
  · rw [decide_eq_false h]
    have hr4 : x < 0 ∨ (0 ≤ x ∧ y ≤ x) ∨ (0 ≤ x ∧ x < y ∧ z ≤ y) ∨ (0 ≤ x ∧ x < y ∧ y < z ∧ (n : Int) ≤ z) := by
      unfold RisesP at h
      simp only at h
      omega
    clear h
    go_enter Try.func44, Try.ntmps44
    rcases hr4 with h1 | ⟨h1, h2⟩ | ⟨h1, h2, h3⟩ | ⟨h1, h2, h3, h4⟩
    all_goals
      (go_wp2
       go_ret
       refine ⟨?_, HB1.out⟩
       first
         | rfl
         | (have e : decide (z < (n : Int)) = false := by simp; omega
            simp [e]))
/-- the pairs of a triple as numbers -/
def prI (n : Nat) (t : N3) : List Nat := (prN t).map fun p => p.1 * n + p.2
def pa (a : Nat) : Nat := if a = 0 then 0 else if a = 1 then 2 else 3
theorem prI_flat (n : Nat) (L : List N3) : L.flatMap (prI n) = (L.flatMap prN).map fun p => p.1 * n + p.2 := by
  induction L with
  | nil => rfl
  | cons t L ih => rw [List.flatMap_cons, ih, List.flatMap_cons, List.map_append]; rfl
theorem prI_mem {n : Nat} {K : List (Nat × Nat)} (hK : ∀ p ∈ K, p.2 < n) {u v : Nat} (hv : v < n) : u * n + v ∈ K.map (fun p => p.1 * n + p.2) ↔ (u, v) ∈ K := by
  constructor
  · intro h
    obtain ⟨⟨a, b⟩, hm, e⟩ := List.mem_map.1 h
    have hb := hK _ hm
    simp only at e hb
    have h1 : (a * n + b) / n = a := by rw [Nat.mul_comm, Nat.mul_add_div (by omega), Nat.div_eq_of_lt hb]; omega
    have h2 : (u * n + v) / n = u := by rw [Nat.mul_comm, Nat.mul_add_div (by omega), Nat.div_eq_of_lt hv]; omega
    rw [e] at h1
    have : a = u := by omega
    subst this
    have : b = v := by omega
    subst this
    exact hm
  · intro h
    exact List.mem_map.2 ⟨(u, v), h, rfl⟩
theorem key_bound {n u v : Nat} (hu : u < n) (hv : v < n) : u * n + v < n * n := by
  have : (u + 1) * n ≤ n * n := Nat.mul_le_mul_right n (by omega)
  rw [Nat.add_mul] at this
  omega
set_option maxRecDepth 100000 in
set_option maxHeartbeats 8000000 in
theorem together_any (n : Nat) (p : Option Addr) (c : Nat) (l : List Z3) (w : World) (hn3 : 3 ≤ n) (hn : n ≤ 27) (hl : l.length ≤ 100000) (hS : SrcZ w p l) :
    Calls Try.prog 43 #[.int .i64 (n : Int), .slice p l.length c] w fun e w' => TellsP (TogP n l) e ∧ Below w.heap.size w w' := by
  have HS := Lib.hid hS
  clear hS
  obtain ⟨len, HL⟩ : ∃ len, Hid (l.length = len) := ⟨_, rfl⟩
  rw [HL.out] at hl ⊢
  obtain ⟨N, HN, hNB⟩ : ∃ N, Hid (n * n = N) ∧ N ≤ 729 := ⟨n * n, rfl, Nat.mul_le_mul hn hn⟩
  have eN : (n : Int) * (n : Int) = (N : Int) := by rw [← HN.out]; push_cast; rfl
  have wN : IntKind.i64.wrap ((N : Nat) : Int) = (N : Int) := by have := @IntKind.wrap_i64 (N : Int); omega
  obtain ⟨vs, hvs, hmk⟩ := makeMarks N (by omega)
  have hmk := hmk w
  have HM0 : Hid (MarkN (w.alloc (.cells vs 4)) w.heap.size N []) := hvs w
  have HB0 : Hid (Below w.heap.size w (w.alloc (.cells vs 4))) := (Below.refl _ _).alloc (Nat.le_refl _) _
  clear hvs
  go_enter Try.func43, Try.ntmps43
  go_upto_region 3 with (fail)
  obtain ⟨M, hM⟩ : ∃ M, Hid (M = w.heap.size) := ⟨_, rfl⟩
  rw [← hM.out] at HM0 ⊢
  generalize (w.alloc (.cells vs 4)) = U at *
  clear hmk
  go_loopw [6] (fun s6 wr => ∃ (i : Nat) (L : List N3), i ≤ len ∧ s6 = .int .i64 (i : Int) ∧ Hid (TogI n l i L) ∧ Hid (MarkN wr M N ((L.flatMap prN).map fun p => p.1 * n + p.2)) ∧ Hid (Below w.heap.size w wr)) (fun s6 _ => len - (intOf s6).toNat)
  case atStart => exact ⟨0, [], by omega, rfl, ⟨by simp, fun t h => (by cases h), List.nodup_nil⟩, HM0, HB0⟩
  case round =>
    clear HM0 HB0
    obtain ⟨i, L, hi, rfl, hT, hMr, hB⟩ := hrel
    have hwr : w.heap.size ≤ wr.heap.size := hB.out.size
    by_cases hin : i < len
    · have g1 : (i : Int) < (len : Int) := by omega
      have hil : i < l.length := by rw [HL.out]; exact hin
      obtain ⟨b, o, rfl, hb, hc⟩ := HS.out (by omega)
      obtain ⟨k0, k1, k2⟩ := hc i hil
      have r0 : wr.cell? ⟨b, o + i * 3, none⟩ = some (.int .i64 (l[i]).1) := (hB.out.cell (p := ⟨b, o + i * 3, none⟩) hb).trans k0
      have r1 : wr.cell? ⟨b, o + i * 3 + 1, none⟩ = some (.int .i64 (l[i]).2.1) := (hB.out.cell (p := ⟨b, o + i * 3 + 1, none⟩) hb).trans k1
      have r2 : wr.cell? ⟨b, o + i * 3 + 2, none⟩ = some (.int .i64 (l[i]).2.2) := (hB.out.cell (p := ⟨b, o + i * 3 + 2, none⟩) hb).trans k2
      have HTK : Hid (l.take (i + 1) = l.take i ++ [l[i]]) := by unfold Hid; rw [List.take_add_one, List.getElem?_eq_getElem hil]; rfl
      have HME : Hid (TogP n l → RisesP n l[i]) := fun H => H.up _ (List.getElem_mem hil)
      have HNX : Hid (∀ s, l[i] = zc s → TogP n l → ((L ++ [s]).flatMap prN).Nodup) := fun s hs H => H.pre (i := i + 1) (by rw [HTK.out, hT.out.eq, hs, List.map_append]; rfl)
      have HTI : Hid (∀ s, l[i] = zc s → RisesP n (zc s) → ((L ++ [s]).flatMap prN).Nodup → TogI n l (i + 1) (L ++ [s])) := fun s hs hr hnd =>
        { eq := by rw [HTK.out, hT.out.eq, hs, List.map_append]; rfl
          up := fun t ht => (List.mem_append.1 ht).elim (fun h => hT.out.up t h) (fun h => by rw [List.mem_singleton.1 h]; exact hr)
          nd := hnd }
      clear k0 k1 k2 HTK
      have HRS := Lib.hid (Rises_any n (l[i]).1 (l[i]).2.1 (l[i]).2.2 wr)
      by_cases hr : RisesP n l[i]
      · rw [show decide (RisesP n ((l[i]).1, (l[i]).2.1, (l[i]).2.2)) = true from decide_eq_true hr] at HRS
        obtain ⟨s, hs⟩ := rise_nat hr
        have HR := Lib.hid hr
        have HCS : Hid (∀ W, Below w.heap.size w W → W.cell? ⟨b, o + i * 3, none⟩ = some (.int .i64 (l[i]).1) ∧ W.cell? ⟨b, o + i * 3 + 1, none⟩ = some (.int .i64 (l[i]).2.1) ∧ W.cell? ⟨b, o + i * 3 + 2, none⟩ = some (.int .i64 (l[i]).2.2)) := fun W hW => ⟨(hW.cell (p := ⟨b, o + i * 3, none⟩) hb).trans (hc i hil).1, (hW.cell (p := ⟨b, o + i * 3 + 1, none⟩) hb).trans (hc i hil).2.1, (hW.cell (p := ⟨b, o + i * 3 + 2, none⟩) hb).trans (hc i hil).2.2⟩
        rw [hs] at r0 r1 r2 HR HRS HCS
        have HNX2 := Lib.hid (HNX.out s hs)
        have HTI2 := Lib.hid (HTI.out s hs HR.out)
        obtain ⟨x, y, z⟩ := s
        have hb0 : x < y ∧ y < z ∧ z < n := by have := HR.out; unfold RisesP zc at this; simp only at this; omega
        simp only [zc] at r0 r1 r2 HRS HCS
        obtain ⟨b1, b2, b3⟩ := hb0
        have HND := Lib.hid hT.out.nd
        have HUP := Lib.hid hT.out.up
        clear hs hr HNX HTI HME hc hT
        go_upto_region 7 with (go_at_call 44; refine HRS.out.mono ?_; rintro e w1 ⟨rfl, hB1⟩; have HM1 := Lib.hid (hMr.out.below hB1 hMr.out.lt); have HB1 : Hid (Below w.heap.size w w1) := hB.out.trans (hB1.mono hwr); clear hB1)
        clear r0 r1 r2 HRS hMr hB hwr
        obtain ⟨KP, hKP⟩ : ∃ KP, Hid (KP = L.flatMap prN) := ⟨_, rfl⟩
        have HK2 : Hid ((L ++ [((x, y, z) : N3)]).flatMap prN = KP ++ prN (x, y, z)) := by unfold Hid; rw [List.flatMap_append, hKP.out]; simp
        have HKB : Hid (∀ p ∈ KP, p.1 < n ∧ p.2 < n) := fun p hp => by
          rw [hKP.out] at hp
          obtain ⟨t, ht, h2⟩ := List.mem_flatMap.1 hp
          have h3 := HUP.out t ht
          obtain ⟨t0, t1, t2⟩ := t
          unfold RisesP zc at h3
          simp only at h3
          unfold prN at h2
          simp only [List.mem_cons, List.not_mem_nil, or_false] at h2
          rcases h2 with rfl | rfl | rfl
          · exact ⟨by simp only; omega, by simp only; omega⟩
          · exact ⟨by simp only; omega, by simp only; omega⟩
          · exact ⟨by simp only; omega, by simp only; omega⟩
        have HPB : Hid (∀ p ∈ prN (x, y, z), p.1 < n ∧ p.2 < n) := fun p h2 => by
          unfold prN at h2
          simp only [List.mem_cons, List.not_mem_nil, or_false] at h2
          rcases h2 with rfl | rfl | rfl
          · exact ⟨by simp only; omega, by simp only; omega⟩
          · exact ⟨by simp only; omega, by simp only; omega⟩
          · exact ⟨by simp only; omega, by simp only; omega⟩
        rw [← hKP.out] at HM1 HND
        rw [HK2.out] at HNX2 HTI2
        clear HUP
        go_upto_region 8 with (fail)
        go_loopw [7] (fun s7 wq => ∃ a : Nat, a ≤ 3 ∧ s7 = .int .i64 (a : Int) ∧ Hid (MarkN wq M N ((KP ++ (prN (x, y, z)).take (pa a)).map fun p => p.1 * n + p.2)) ∧ Hid ((KP ++ (prN (x, y, z)).take (pa a)).Nodup) ∧ Hid (Below w.heap.size w wq)) (fun s7 _ => 3 - (intOf s7).toNat)
        case atStart => exact ⟨0, by omega, rfl, by unfold Hid; simpa [pa] using HM1.out, by unfold Hid; simpa [pa] using HND.out, HB1⟩
        case round =>
          clear HM1 HND HB1
          obtain ⟨a, ha, rfl, hMa, hNa, hBa⟩ := hrel
          by_cases ha3 : a < 3
          · have g2 : (a : Int) < 3 := by omega
            go_upto_region 11 with (fail)
            go_loopw [8] (fun s8 wq => ∃ b2 : Nat, a < b2 ∧ b2 ≤ 3 ∧ s8 = .int .i64 (b2 : Int) ∧ Hid (MarkN wq M N ((KP ++ (prN (x, y, z)).take (pa a + (b2 - a - 1))).map fun p => p.1 * n + p.2)) ∧ Hid ((KP ++ (prN (x, y, z)).take (pa a + (b2 - a - 1))).Nodup) ∧ Hid (Below w.heap.size w wq)) (fun s8 _ => 3 - (intOf s8).toNat)
            case atStart => exact ⟨a + 1, by omega, by omega, int_eq (by omega), by rw [show a + 1 - a - 1 = 0 by omega]; exact hMa, by rw [show a + 1 - a - 1 = 0 by omega]; exact hNa, hBa⟩
            case round =>
              clear hMa hNa hBa
              obtain ⟨b2, hab, hb3, rfl, hMb, hNb, hBb⟩ := hrel
              by_cases hb3' : b2 < 3
              · have g3 : (b2 : Int) < 3 := by omega
                obtain ⟨k, hk⟩ : ∃ k, Hid (k = pa a + (b2 - a - 1)) := ⟨_, rfl⟩
                have HK1 : Hid (pa a + (b2 + 1 - a - 1) = k + 1) := by rw [Hid, hk.out]; omega
                rw [← hk.out] at hMb hNb
                have HCW := HCS.out wr hBb.out
                have hwr2 : w.heap.size ≤ wr.heap.size := hBb.out.size
                obtain ⟨u, v, huv, c1, c2⟩ : ∃ u v, Hid ((prN (x, y, z))[k]? = some (u, v)) ∧ wr.cell? ⟨b, o + i * 3 + a, none⟩ = some (.int .i64 (u : Int)) ∧ wr.cell? ⟨b, o + i * 3 + b2, none⟩ = some (.int .i64 (v : Int)) := by
                  have hk2 := hk.out
                  rcases (show (a = 0 ∧ b2 = 1) ∨ (a = 0 ∧ b2 = 2) ∨ (a = 1 ∧ b2 = 2) by omega) with ⟨rfl, rfl⟩ | ⟨rfl, rfl⟩ | ⟨rfl, rfl⟩
                  · obtain rfl : k = 0 := hk2
                    exact ⟨x, y, rfl, HCW.1, HCW.2.1⟩
                  · obtain rfl : k = 1 := hk2
                    exact ⟨x, z, rfl, HCW.1, HCW.2.2⟩
                  · obtain rfl : k = 2 := hk2
                    exact ⟨y, z, rfl, HCW.2.1, HCW.2.2⟩
                have hkl : k < (prN (x, y, z)).length := by
                  by_cases h : k < (prN (x, y, z)).length
                  · exact h
                  · have := huv.out
                    rw [List.getElem?_eq_none (by omega)] at this
                    cases this
                have HUV : Hid ((prN (x, y, z))[k]'hkl = (u, v)) := by
                  have := huv.out
                  rw [List.getElem?_eq_getElem hkl] at this
                  exact Option.some.inj this
                have HUM : Hid (u < n ∧ v < n) := HPB.out (u, v) (by rw [← HUV.out]; exact List.getElem_mem _)
                have HTK : Hid ((prN (x, y, z)).take (k + 1) = (prN (x, y, z)).take k ++ [(u, v)]) := by unfold Hid; rw [List.take_add_one, huv.out]; rfl
                have HNO : Hid (TogP n l → (u, v) ∉ KP ++ (prN (x, y, z)).take k) := fun H => by
                  have := dup_no (HNX2.out H) hkl
                  rw [HUV.out] at this
                  exact this
                have HB9 : Hid (∀ p ∈ KP ++ (prN (x, y, z)).take k, p.2 < n) := fun p hp => (List.mem_append.1 hp).elim (fun h => (HKB.out p h).2) (fun h => (HPB.out p (List.mem_of_mem_take h)).2)
                have HIN : Hid (u * n + v ∈ (KP ++ (prN (x, y, z)).take k).map (fun p => p.1 * n + p.2) ↔ (u, v) ∈ KP ++ (prN (x, y, z)).take k) := prI_mem HB9.out HUM.out.2
                have hkey : u * n + v < N := by rw [← HN.out]; exact key_bound HUM.out.1 HUM.out.2
                have HKE : Hid ((KP ++ (prN (x, y, z)).take (k + 1)).map (fun p => p.1 * n + p.2) = (KP ++ (prN (x, y, z)).take k).map (fun p => p.1 * n + p.2) ++ [u * n + v]) := by unfold Hid; rw [HTK.out, ← List.append_assoc, List.map_append]; rfl
                have eu : (u : Int) * (n : Int) = ((u * n : Nat) : Int) := by push_cast; rfl
                have ev : ((u * n : Nat) : Int) + (v : Int) = ((u * n + v : Nat) : Int) := by push_cast; rfl
                have hun : u * n ≤ u * n + v := by omega
                obtain ⟨un, hun2⟩ : ∃ un, Hid (u * n = un) := ⟨_, rfl⟩
                rw [hun2.out] at eu ev hkey hun HIN HKE
                obtain ⟨ky, hky⟩ : ∃ ky, Hid (un + v = ky) := ⟨_, rfl⟩
                rw [hky.out] at ev hkey hun HIN HKE
                have hlt : b < wr.heap.size := by omega
                have r1 : ∀ d : BW wr.heap.size wr, d.w.cell? ⟨b, o + i * 3 + a, none⟩ = some (.int .i64 (u : Int)) := fun d => d.cell hlt c1
                have r2 : ∀ d : BW wr.heap.size wr, d.w.cell? ⟨b, o + i * 3 + b2, none⟩ = some (.int .i64 (v : Int)) := fun d => d.cell hlt c2
                have HMD : Hid (∀ d : BW wr.heap.size wr, MarkN d.w M N ((KP ++ (prN (x, y, z)).take k).map fun p => p.1 * n + p.2)) := fun d => hMb.out.below d.b hMb.out.lt
                have HBD : Hid (∀ d : BW wr.heap.size wr, Below w.heap.size w d.w) := fun d => hBb.out.trans (d.b.mono hwr2)
                have ia : (a : Int) < 3 := by omega
                have ib : (b2 : Int) < 3 := by omega
                have da : decide (a < 3) = true := by simpa using ha3
                have db : decide (b2 < 3) = true := by simpa using hb3'
                have di : decide (i < len) = true := by simpa using hin
                have w1 : IntKind.i64.wrap (un : Int) = (un : Int) := wrap_small un (by omega)
                have w2 : IntKind.i64.wrap (ky : Int) = (ky : Int) := wrap_small ky (by omega)
                clear c1 c2 HCW hMb
                go_wp2
                refine wp_region_bw (by kernel_rfl) (by kernel_rfl) ?_
                repeat (go_big_quiet_step (rfl))
                refine wpQuiet_nil ?_
                rintro _ ⟨d, rfl⟩
                clear w1 w2 wN
                have HM2 := Lib.hid (HMD.out d)
                have HB2 := Lib.hid (HBD.out d)
                clear HMD HBD r1 r2
                generalize d.w = wd at *
                have m1 := HM2.out.cell hkey
                have m2 := HM2.out.frozen ky
                by_cases hm : (u, v) ∈ KP ++ (prN (x, y, z)).take k
                · have HF : Hid (¬ TogP n l) := fun H => HNO.out H hm
                  rw [show ((KP ++ (prN (x, y, z)).take k).map fun p => p.1 * n + p.2).elem ky = true from List.elem_eq_true_of_mem (HIN.out.2 hm)] at m1
                  go_wp2
                  go_ret
                  exact ⟨⟨false, rfl, ⟨fun h => (by cases h), fun H => (HF.out H).elim⟩⟩, HB2.out⟩
                · have HNN : Hid ((KP ++ (prN (x, y, z)).take (k + 1)).Nodup) := by
                    unfold Hid
                    rw [HTK.out, ← List.append_assoc, List.nodup_append]
                    refine ⟨hNb.out, by simp, fun a ha b hb e => ?_⟩
                    rw [List.mem_singleton.1 hb] at e
                    rw [e] at ha
                    exact hm ha
                  have HM3 : Hid (MarkN (wd.setCell ⟨M, ky, none⟩ (.bool true)) M N ((KP ++ (prN (x, y, z)).take (k + 1)).map fun p => p.1 * n + p.2)) := by rw [HKE.out]; exact HM2.out.set ky
                  rw [show ((KP ++ (prN (x, y, z)).take k).map fun p => p.1 * n + p.2).elem ky = false from by
                    cases e : ((KP ++ (prN (x, y, z)).take k).map fun p => p.1 * n + p.2).elem ky
                    · rfl
                    · exact (hm (HIN.out.1 (List.mem_of_elem_eq_true e))).elim] at m1
                  have HB3 : Hid (Below w.heap.size w (wd.setCell ⟨M, ky, none⟩ (.bool true))) := by
                    exact HB2.out.setCell (by show w.heap.size ≤ M; rw [hM.out]; exact Nat.le_refl _) _
                  go_wp2
                  refine ⟨⟨b2 + 1, by omega, by omega, int_eq (by omega), ?_, ?_, HB3⟩, by simp [intOf]; omega⟩
                  · rw [HK1.out]; exact HM3
                  · rw [HK1.out]; exact HNN
              · have g3 : ¬ (b2 : Int) < 3 := by omega
                obtain rfl : b2 = 3 := by omega
                have ea : pa a + (3 - a - 1) = pa (a + 1) := by
                  rcases (show a = 0 ∨ a = 1 ∨ a = 2 by omega) with rfl | rfl | rfl <;> rfl
                rw [ea] at hMb hNb
                go_wp2
                exact ⟨⟨a + 1, by omega, int_eq (by omega), hMb, hNb, hBb⟩, by simp [intOf]; omega⟩
          · have g2 : ¬ (a : Int) < 3 := by omega
            obtain rfl : a = 3 := by omega
            have HTI3 : Hid (TogI n l (i + 1) (L ++ [((x, y, z) : N3)])) := HTI2.out hNa.out
            have HM3 : Hid (MarkN wr M N ((KP ++ prN (x, y, z)).map fun p => p.1 * n + p.2)) := hMa.out
            rw [← HK2.out] at HM3
            go_wp2
            exact ⟨⟨i + 1, L ++ [((x, y, z) : N3)], by omega, int_eq (by omega), HTI3, HM3, hBa⟩, by simp [intOf]; omega⟩
      · rw [show decide (RisesP n ((l[i]).1, (l[i]).2.1, (l[i]).2.2)) = false from decide_eq_false hr] at HRS
        have HF : Hid (¬ TogP n l) := fun H => hr (HME.out H)
        clear hr HME HNX HTI hc hT
        generalize (l[i]).1 = x at *
        generalize (l[i]).2.1 = y at *
        generalize (l[i]).2.2 = z at *
        go_wp2_with (go_at_call 44; refine HRS.out.mono ?_; rintro e w1 ⟨rfl, hB1⟩; have HB1 : Hid (Below w.heap.size w w1) := hB.out.trans (hB1.mono hwr); clear hB1)
        go_ret
        exact ⟨⟨false, rfl, ⟨fun h => (by cases h), fun H => (HF.out H).elim⟩⟩, HB1.out⟩
    · have g1 : ¬ (i : Int) < (len : Int) := by omega
      obtain rfl : len = i := by omega
      obtain ⟨q, hq, hqe⟩ := pairs_half n hn
      have HTD : Hid (TogP n l ↔ 6 * len = 2 * q) := by
        have h1 : TogI n l l.length L := by rw [HL.out]; exact hT.out
        rw [Hid, h1.done, HL.out, hqe]
      have e1 : (n : Int) * ((n : Int) - 1) = ((2 * q : Nat) : Int) := by
        rw [← hqe, show (n : Int) - 1 = ((n - 1 : Nat) : Int) by omega]; push_cast; rfl
      have hq2 : 2 * q ≤ 702 := by omega
      generalize 2 * q = q2 at *
      have HBr := Lib.hid hB.out
      clear hT hMr hB hqe
      by_cases he : 6 * len = q2
      · have q1 : ((6 * (len : Int)) == (q2 : Int)) = true := by simp; omega
        go_wp2
        go_ret
        exact ⟨⟨true, rfl, ⟨fun _ => HTD.out.2 he, fun _ => rfl⟩⟩, HBr.out⟩
      · have q1 : ((6 * (len : Int)) == (q2 : Int)) = false := by simp; omega
        go_wp2
        go_ret
        exact ⟨⟨false, rfl, ⟨fun h => (by cases h), fun H => (he (HTD.out.1 H)).elim⟩⟩, HBr.out⟩
end Go.Proofs.Ytocnhikohfkcaaa
namespace Go.Proofs.Ytocnhikohfkcaaa
open Go.RowKit Go.Shelf
attribute [local go_sem] Oper.semAt_some

abbrev I2 := Int × Int
def EvP (z : Int) : Prop := 2 ≤ z ∧ z ≤ 16 ∧ z.toNat % 2 = 0
instance (z : Int) : Decidable (EvP z) := by unfold EvP; infer_instance
def Src2 (W : World) (p : Option Addr) (l : List I2) : Prop := 0 < l.length → ∃ b o, p = some ⟨b, o, none⟩ ∧ b < W.heap.size ∧ ∀ i (hi : i < l.length), W.cell? ⟨b, o + i * 2, none⟩ = some (.int .i64 (l[i]).1) ∧ W.cell? ⟨b, o + i * 2 + 1, none⟩ = some (.int .i64 (l[i]).2)
theorem Src2.below {k : Nat} {w W : World} {p : Option Addr} {l : List I2} (h : Src2 w p l) (hB : Below k w W) (hk : w.heap.size ≤ k) : Src2 W p l := fun h0 => by
  obtain ⟨b, o, e, hb, hc⟩ := h h0
  exact ⟨b, o, e, Nat.lt_of_lt_of_le hb hB.size, fun i hi => ⟨(hB.cell (p := ⟨b, o + i * 2, none⟩) (Nat.lt_of_lt_of_le hb hk)).trans (hc i hi).1, (hB.cell (p := ⟨b, o + i * 2 + 1, none⟩) (Nat.lt_of_lt_of_le hb hk)).trans (hc i hi).2⟩⟩
/-- rounds that can be read -/
def SrcS (W : World) (p : Option Addr) (s : List (List I2)) : Prop := 0 < s.length → ∃ b o, p = some ⟨b, o, none⟩ ∧ b < W.heap.size ∧ ∀ i (hi : i < s.length), ∃ q c, W.cell? ⟨b, o + i, none⟩ = some (.slice q (s[i]).length c) ∧ (s[i]).length ≤ c ∧ Src2 W q s[i]
theorem SrcS.below {k : Nat} {w W : World} {p : Option Addr} {s : List (List I2)} (h : SrcS w p s) (hB : Below k w W) (hk : w.heap.size ≤ k) : SrcS W p s := fun h0 => by
  obtain ⟨b, o, e, hb, hc⟩ := h h0
  refine ⟨b, o, e, Nat.lt_of_lt_of_le hb hB.size, fun i hi => ?_⟩
  obtain ⟨q, c, h1, h2, h3⟩ := hc i hi
  exact ⟨q, c, (hB.cell (p := ⟨b, o + i, none⟩) (Nat.lt_of_lt_of_le hb hk)).trans h1, h2, h3.below hB hk⟩
def ends (p : I2) : List Int := [p.1, p.2]
def both (p : I2) : List I2 := [(p.1, p.2), (p.2, p.1)]
/-- the rounds are a schedule -/
structure SchI (n : Nat) (s : List (List I2)) : Prop where
  len : s.length = n - 1
  row : ∀ d ∈ s, d.length = n / 2
  rng : ∀ d ∈ s, ∀ p ∈ d, (0 ≤ p.1 ∧ p.1 < (n : Int)) ∧ (0 ≤ p.2 ∧ p.2 < (n : Int)) ∧ p.1 ≠ p.2
  nd : ∀ d ∈ s, (d.flatMap ends).Nodup
  met : (s.flatten.flatMap both).Nodup
set_option maxRecDepth 100000 in
theorem REven_any (z : Int) (w : World) : Calls Try.prog 12 #[.int .i64 z] w fun e w' => e = .returned (.bool (decide (EvP z))) ∧ w' = w := by
  by_cases h : EvP z
  · rw [decide_eq_true h]
    obtain ⟨h1, h2, h3⟩ := h
    have e1 : Int.tmod z 2 = 0 := by rw [Int.tmod_eq_emod_of_nonneg (by omega)]; omega
    clear h3
    go_enter Try.func12, Try.ntmps12
    go_wp2
    go_ret
    exact ⟨rfl, rfl⟩
  · rw [decide_eq_false h]
    have hc : z < 2 ∨ (2 ≤ z ∧ 16 < z) ∨ (2 ≤ z ∧ z ≤ 16 ∧ Int.tmod z 2 = 1) := by
      unfold EvP at h
      by_cases h2 : 2 ≤ z
      · rw [Int.tmod_eq_emod_of_nonneg (by omega)]; omega
      · omega
    clear h
    rcases hc with h1 | ⟨h1, h2⟩ | ⟨h1, h2, h3⟩
    all_goals
      (go_enter Try.func12, Try.ntmps12
       go_wp2
       go_ret
       refine ⟨?_, rfl⟩
       first
         | rfl
         | (have e : decide (2 ≤ z) = false := (by simp; omega)
            simp [e])
         | (have e : decide (z ≤ 16) = false := (by simp; omega)
            simp [e])
         | (simp [h3]))
end Go.Proofs.Ytocnhikohfkcaaa
namespace Go.Proofs.Ytocnhikohfkcaaa
open Go.RowKit Go.Shelf
attribute [local go_sem] Oper.semAt_some

theorem lt3_trans {a b c : Z3} (h1 : lt3 a b = true) (h2 : lt3 b c = true) : lt3 a c = true := by
  rw [lt3_iff] at h1 h2 ⊢
  omega
theorem pw_snoc {l : List Z3} {i : Nat} (hi : i + 1 < l.length) (h : (l.take (i + 1)).Pairwise (fun a b => lt3 a b = true)) (hl : lt3 l[i] l[i + 1] = true) : (l.take (i + 1 + 1)).Pairwise (fun a b => lt3 a b = true) := by
  have e : l.take (i + 1 + 1) = l.take (i + 1) ++ [l[i + 1]] := by rw [List.take_add_one, List.getElem?_eq_getElem hi]; rfl
  have e2 : l.take (i + 1) = l.take i ++ [l[i]] := by rw [List.take_add_one, List.getElem?_eq_getElem (by omega)]; rfl
  rw [e, List.pairwise_append]
  refine ⟨h, List.pairwise_singleton _ _, fun a ha b hb => ?_⟩
  rw [List.mem_singleton.1 hb]
  rw [e2] at ha h
  rcases List.mem_append.1 ha with h1 | h1
  · exact lt3_trans ((List.pairwise_append.1 h).2.2 a h1 _ (List.mem_singleton.2 rfl)) hl
  · rw [List.mem_singleton.1 h1]; exact hl
set_option maxRecDepth 100000 in
set_option maxHeartbeats 8000000 in
theorem RIsTri_any (n : Int) (p : Option Addr) (c : Nat) (l : List Z3) (w : World) (hl : l.length ≤ 1000) (hS : SrcZ w p l) :
    Calls Try.prog 20 #[.int .i64 n, .slice p l.length c] w fun e w' => TellsP ((3 ≤ n ∧ n ≤ 27) ∧ SysP n.toNat l) e ∧ Below w.heap.size w w' := by
  by_cases hr : 3 ≤ n ∧ n ≤ 27
  · obtain ⟨m, rfl⟩ : ∃ m : Nat, n = (m : Int) := ⟨n.toNat, by omega⟩
    have HTG := Lib.hid (together_any m p c l w (by omega) (by omega) (by omega) hS)
    have HTT : Hid (((3 ≤ (m : Int) ∧ (m : Int) ≤ 27) ∧ SysP (m : Int).toNat l) ↔ SysP m l) := ⟨fun h => h.2, fun h => ⟨hr, h⟩⟩
    have HS := Lib.hid hS
    clear hS
    obtain ⟨len, HL⟩ : ∃ len, Hid (l.length = len) := ⟨_, rfl⟩
    rw [HL.out] at HTG hl ⊢
    obtain ⟨q1, q2⟩ := hr
    by_cases hT : TogP m l
    · go_enter Try.func20, Try.ntmps20
      go_upto_region 4 with (go_at_call 43; refine HTG.out.mono ?_; rintro e w1 ⟨ht, hB1⟩; obtain rfl := ht.yes hT; have HB1 := Lib.hid hB1; clear ht hB1)
      go_loopw [5] (fun s5 wr => ∃ i : Nat, Hid (i = 0 ∨ i < len) ∧ s5 = .int .i64 ((i + 1 : Nat) : Int) ∧ Hid ((l.take (i + 1)).Pairwise (fun a b => lt3 a b = true)) ∧ Hid (Below w.heap.size w wr)) (fun s5 _ => len - (intOf s5).toNat)
      case atStart =>
        refine ⟨0, .inl rfl, rfl, ?_, HB1⟩
        unfold Hid
        cases l with
        | nil => simp
        | cons a l => simp
      case round =>
        clear HB1
        obtain ⟨i, hi, rfl, hP, hB⟩ := hrel
        have hwr : w.heap.size ≤ wr.heap.size := hB.out.size
        by_cases hin : i + 1 < len
        · have g1 : ((i + 1 : Nat) : Int) < (len : Int) := by omega
          have hil : i + 1 < l.length := by rw [HL.out]; exact hin
          obtain ⟨b, o, rfl, hb, hc⟩ := HS.out (by omega)
          obtain ⟨k0, k1, k2⟩ := hc i (by omega)
          obtain ⟨j0, j1, j2⟩ := hc (i + 1) hil
          have r0 : wr.cell? ⟨b, o + i * 3, none⟩ = some (.int .i64 (l[i]).1) := (hB.out.cell (p := ⟨b, o + i * 3, none⟩) hb).trans k0
          have r1 : wr.cell? ⟨b, o + i * 3 + 1, none⟩ = some (.int .i64 (l[i]).2.1) := (hB.out.cell (p := ⟨b, o + i * 3 + 1, none⟩) hb).trans k1
          have r2 : wr.cell? ⟨b, o + i * 3 + 2, none⟩ = some (.int .i64 (l[i]).2.2) := (hB.out.cell (p := ⟨b, o + i * 3 + 2, none⟩) hb).trans k2
          obtain ⟨ii, hii⟩ : ∃ ii, Hid (i + 1 = ii) := ⟨_, rfl⟩
          have s0 : wr.cell? ⟨b, o + ii * 3, none⟩ = some (.int .i64 (l[i + 1]).1) := by rw [← hii.out]; exact (hB.out.cell (p := ⟨b, o + (i + 1) * 3, none⟩) hb).trans j0
          have s1 : wr.cell? ⟨b, o + ii * 3 + 1, none⟩ = some (.int .i64 (l[i + 1]).2.1) := by rw [← hii.out]; exact (hB.out.cell (p := ⟨b, o + (i + 1) * 3 + 1, none⟩) hb).trans j1
          have s2 : wr.cell? ⟨b, o + ii * 3 + 2, none⟩ = some (.int .i64 (l[i + 1]).2.2) := by rw [← hii.out]; exact (hB.out.cell (p := ⟨b, o + (i + 1) * 3 + 2, none⟩) hb).trans j2
          have HN : Hid (lt3 l[i] l[i + 1] = true → (l.take (i + 1 + 1)).Pairwise (fun a b => lt3 a b = true)) := fun h => pw_snoc hil hP.out h
          have HF : Hid (SysP m l → lt3 l[i] l[i + 1] = true) := fun h => (List.pairwise_iff_getElem.1 h.srt) i (i + 1) (by omega) hil (by omega)
          generalize l[i + 1] = t at *
          generalize l[i] = s at *
          obtain ⟨s0', s1', s2'⟩ := s
          obtain ⟨t0', t1', t2'⟩ := t
          simp only at r0 r1 r2 s0 s1 s2
          clear hc k0 k1 k2 j0 j1 j2
          rw [hii.out] at g1 hin hil ⊢
          have e0 : (ii : Int) - 1 = (i : Int) := by have := hii.out; omega
          have hii2 : i < len := by have := hii.out; omega
          have hBd : Hid (∀ W, Below wr.heap.size wr W → Below w.heap.size w W) := fun W h => hB.out.trans (h.mono hwr)
          clear hP
          have HX1 : Hid (Below w.heap.size w (((wr.alloc (.cells #[.int .i64 s0', .int .i64 s1', .int .i64 s2'] 44)).alloc (.cells #[.int .i64 t0', .int .i64 t1', .int .i64 t2'] 44)).drew)) := hBd.out _ ((((Below.refl _ _).alloc (Nat.le_refl _) _).alloc (by simp) _).drew)
          have HX2 : Hid (Below w.heap.size w (((wr.alloc (.cells #[.int .i64 t0', .int .i64 t1', .int .i64 t2'] 44)).alloc (.cells #[.int .i64 s0', .int .i64 s1', .int .i64 s2'] 44)).drew)) := hBd.out _ ((((Below.refl _ _).alloc (Nat.le_refl _) _).alloc (by simp) _).drew)
          have hii3 : ii + 1 ≤ len + 1 := by omega
          have hcmp : (t0' < s0' ∧ Hid (¬ lt3 (s0', s1', s2') (t0', t1', t2') = true)) ∨ (s0' < t0' ∧ (s0' == t0') = false ∧ Hid (lt3 (s0', s1', s2') (t0', t1', t2') = true)) ∨ (s0' = t0' ∧ ((t1' < s1' ∧ Hid (¬ lt3 (s0', s1', s2') (t0', t1', t2') = true)) ∨ (s1' < t1' ∧ (s1' == t1') = false ∧ Hid (lt3 (s0', s1', s2') (t0', t1', t2') = true)) ∨ (s1' = t1' ∧ ((t2' ≤ s2' ∧ Hid (¬ lt3 (s0', s1', s2') (t0', t1', t2') = true)) ∨ (s2' < t2' ∧ Hid (lt3 (s0', s1', s2') (t0', t1', t2') = true)))))) := by
            unfold Hid
            rw [lt3_iff]
            simp
            omega
          go_wp2
          go_region
          all_goals
            rcases hcmp with ⟨h, HX⟩ | ⟨h, h', HX⟩ | ⟨rfl, ⟨h, HX⟩ | ⟨h, h', HX⟩ | ⟨rfl, ⟨h, HX⟩ | ⟨h, HX⟩⟩⟩
          all_goals
            first
              | (have HNO : Hid (¬ SysP m l) := fun H => HX.out (HF.out H)
                 go_wp2
                 go_ret
                 refine ⟨⟨false, rfl, ⟨fun h => (by cases h), fun H => (HNO.out (HTT.out.1 H)).elim⟩⟩, ?_⟩
                 first | exact HX1.out | exact HX2.out)
              | (have HN3 := HN.out HX.out
                 rw [hii.out] at HN3
                 have HN4 := Lib.hid HN3
                 clear HN3
                 go_wp2
                 refine ⟨⟨ii, .inr hin, by go_num, HN4, ?_⟩, by simp [intOf]; omega⟩
                 first | exact HX1 | exact HX2)
        · have g1 : ¬ ((i + 1 : Nat) : Int) < (len : Int) := by omega
          have HSY : Hid (SysP m l) := ⟨hT, by
            have := hP.out
            rw [List.take_of_length_le (by rw [HL.out]; omega)] at this
            exact this⟩
          go_wp2
          go_ret
          exact ⟨⟨true, rfl, ⟨fun _ => HSY.out, fun _ => rfl⟩⟩, hB.out⟩
    · have HF : Hid (¬ SysP m l) := fun h => hT h.tog
      go_enter Try.func20, Try.ntmps20
      go_wp2_with (go_at_call 43; refine HTG.out.mono ?_; rintro e w1 ⟨ht, hB1⟩; obtain rfl := ht.no hT; have HB1 := Lib.hid hB1; clear ht hB1)
      go_ret
      exact ⟨⟨false, rfl, ⟨fun h => (by cases h), fun H => (HF.out (HTT.out.1 H)).elim⟩⟩, HB1.out⟩
  · have HF : Hid (¬ ((3 ≤ n ∧ n ≤ 27) ∧ SysP n.toNat l)) := fun h => hr h.1
    obtain ⟨len, HL⟩ : ∃ len, Hid (l.length = len) := ⟨_, rfl⟩
    rw [HL.out]
    clear hl hS
    by_cases h3 : n < 3
    · go_enter Try.func20, Try.ntmps20
      go_wp2
      go_ret
      exact ⟨⟨false, rfl, ⟨fun h => (by cases h), fun H => (HF.out H).elim⟩⟩, Below.refl _ _⟩
    · have h4 : 27 < n := by omega
      clear hr
      go_enter Try.func20, Try.ntmps20
      go_wp2
      go_ret
      exact ⟨⟨false, rfl, ⟨fun h => (by cases h), fun H => (HF.out ⟨⟨by omega, H.1⟩, H.2⟩).elim⟩⟩, Below.refl _ _⟩
end Go.Proofs.Ytocnhikohfkcaaa
namespace Go.Proofs.Ytocnhikohfkcaaa
open Go.RowKit Go.Shelf
attribute [local go_sem] Oper.semAt_some

theorem wrapF {F : Nat} (h : F < 1099511627776) : wrap64 (F : Int) = (F : Int) := by
  rw [← IntWalk.i64_left, IntKind.wrap_i64]; omega
/-- a triple's members are new and different -/
theorem three_nodup {mk : List Nat} {x y z : Nat} (h : mk.Nodup) (hxy : x < y) (hyz : y < z) (h1 : x ∉ mk) (h2 : y ∉ mk) (h3 : z ∉ mk) : (mk ++ [x, y, z]).Nodup := by
  rw [List.nodup_append]
  refine ⟨h, ?_, fun a ha b hb e => ?_⟩
  · simp; omega
  · simp at hb
    subst e
    rcases hb with rfl | rfl | rfl
    · exact h1 ha
    · exact h2 ha
    · exact h3 ha
set_option maxRecDepth 100000 in
set_option maxHeartbeats 16000000 in
theorem RIsDays_in (n : Nat) (p : Option Addr) (c : Nat) (ds : List (List Z3)) (w : World) (hn3 : 3 ≤ n) (hn : n ≤ 27) (hl : ds.length ≤ 1000) (hl2 : ∀ d ∈ ds, d.length ≤ 1000) (hS : SrcD w p ds) :
    Calls Try.prog 21 #[.int .i64 (n : Int), .slice p ds.length c] w fun e w' => TellsP (DaysP n ds) e ∧ Below w.heap.size w w' := by
  obtain ⟨i0, hi0, hz0, hz1, hz2⟩ := info_parts infoT
  have HS := Lib.hid hS
  have HL2 := Lib.hid hl2
  obtain ⟨len, HL⟩ : ∃ len, Hid (ds.length = len) := ⟨_, rfl⟩
  rw [HL.out] at hl ⊢
  obtain ⟨N, HN, hNB⟩ : ∃ N, Hid (n * n = N) ∧ N ≤ 729 := ⟨n * n, rfl, Nat.mul_le_mul hn hn⟩
  have eN : (n : Int) * (n : Int) = (N : Int) := by rw [← HN.out]; push_cast; rfl
  have hfn : full n < 1099511627776 := Nat.lt_of_lt_of_le (full_lt_pw n) (Nat.pow_le_pow_right (n := 2) (i := n) (j := 40) (by decide) (by omega))
  obtain ⟨F, HF0⟩ : ∃ F, Hid (full n = F) := ⟨_, rfl⟩
  have HWP : Hid (wrap64 (wrap64 (2 ^ n) - 1) = (F : Int)) := by
    unfold Hid
    rw [wrap_pw (by omega), full_cast n, HF0.out]
    exact wrapF (by rw [← HF0.out]; exact hfn)
  rw [HF0.out] at hfn
  clear hS hl2
  go_enter Try.func21, Try.ntmps21
  go_upto_region 5 with (fail)
  go_loopw [5, 6] (fun s5 s18 wr => ∃ (i al : Nat) (A : List Z3), i ≤ len ∧ s18 = .int .i64 (i : Int) ∧ Hid (A = (ds.take i).flatten) ∧ Hid (A.length = al) ∧ Hid (QRow wr w.heap.size 44 3 s5 al (zcells A)) ∧ al ≤ i * 9 ∧ Hid (∀ d ∈ ds.take i, (d.flatMap verts).Nodup ∧ 3 * d.length = n) ∧ Hid (Below w.heap.size w wr)) (fun _ s18 _ => len - (intOf s18).toNat)
  case atStart => exact ⟨0, 0, [], by omega, rfl, rfl, rfl, QRow.nil _ _ _ _, by omega, fun d hd => (by simp at hd), Below.refl _ _⟩
  case round =>
    obtain ⟨i, al, A, hi, rfl, hA, hAl, hQ, hfl, hD, hB⟩ := hrel
    obtain ⟨p5, c5, rfl⟩ := hQ.out.isSlice
    obtain ⟨wo, hwo⟩ : ∃ wo, Hid (wo = wr) := ⟨_, rfl⟩
    rw [← hwo.out] at hQ hB ⊢
    clear hwo
    have hwr : w.heap.size ≤ wo.heap.size := hB.out.size
    by_cases hin : i < len
    · have g1 : (i : Int) < (len : Int) := by omega
      have hil : i < ds.length := by rw [HL.out]; exact hin
      obtain ⟨b, o, rfl, hb, hcs⟩ := HS.out (by omega)
      obtain ⟨q, cq, k1, hcq, hz⟩ := hcs i hil
      have HDM : Hid (ds[i] ∈ ds) := List.getElem_mem hil
      have HTK : Hid (ds.take (i + 1) = ds.take i ++ [ds[i]]) := by unfold Hid; rw [List.take_add_one, List.getElem?_eq_getElem hil]; rfl
      have r1 : wo.cell? ⟨b, o + i, none⟩ = some (.slice q (ds[i]).length cq) := (hB.out.cell (p := ⟨b, o + i, none⟩) hb).trans k1
      have hdl := HL2.out _ HDM.out
      have HZ := Lib.hid hz
      generalize ds[i] = day at *
      obtain ⟨dl, hdl2⟩ : ∃ dl, Hid (day.length = dl) := ⟨_, rfl⟩
      rw [hdl2.out] at r1 hcq hdl
      clear hcs k1 hz
      have hbo : b < wo.heap.size := by omega
      have HR1 : Hid (∀ W, Below wo.heap.size wo W → W.cell? ⟨b, o + i, none⟩ = some (.slice q dl cq)) := fun W hW => (hW.cell (p := ⟨b, o + i, none⟩) hbo).trans r1
      go_upto_region 9 with (fail)
      go_loopw [7, 8] (fun s7 s8 wq => ∃ (j sn : Nat) (mk : List Nat), j ≤ dl ∧ s8 = .int .i64 (j : Int) ∧ s7 = .int .i64 (sn : Int) ∧ sn < 134217728 ∧ Hid (IsSet sn mk) ∧ Hid (∀ x ∈ mk, x < n) ∧ Hid ((day.take j).flatMap verts = castL mk) ∧ Hid mk.Nodup ∧ Hid (Below wo.heap.size wo wq)) (fun _ s8 _ => dl - (intOf s8).toNat)
      case atStart => exact ⟨0, 0, [], by omega, rfl, rfl, by omega, IsSet.zero, fun x h => (by cases h), by unfold Hid; simp [castL], List.nodup_nil, Below.refl _ _⟩
      case round =>
        clear r1
        obtain ⟨j, sn, mk, hj, rfl, rfl, hsn, hM, hMn, hV, hN, hBq⟩ := hrel
        have hwq : wo.heap.size ≤ wr.heap.size := hBq.out.size
        have r1 := HR1.out wr hBq.out
        by_cases hjd : j < dl
        · have g2 : (j : Int) < (dl : Int) := by omega
          have hjl : j < day.length := by rw [hdl2.out]; exact hjd
          obtain ⟨b2, o2, rfl, hb2, hc2⟩ := HZ.out (by omega)
          obtain ⟨k0, k1, k2⟩ := hc2 j hjl
          have hb2o : b2 < wo.heap.size := Nat.lt_of_lt_of_le hb2 hwr
          have m0 : wr.cell? ⟨b2, o2 + j * 3, none⟩ = some (.int .i64 (day[j]).1) := (hBq.out.cell (p := ⟨b2, o2 + j * 3, none⟩) hb2o).trans ((hB.out.cell (p := ⟨b2, o2 + j * 3, none⟩) hb2).trans k0)
          have m1 : wr.cell? ⟨b2, o2 + j * 3 + 1, none⟩ = some (.int .i64 (day[j]).2.1) := (hBq.out.cell (p := ⟨b2, o2 + j * 3 + 1, none⟩) hb2o).trans ((hB.out.cell (p := ⟨b2, o2 + j * 3 + 1, none⟩) hb2).trans k1)
          have m2 : wr.cell? ⟨b2, o2 + j * 3 + 2, none⟩ = some (.int .i64 (day[j]).2.2) := (hBq.out.cell (p := ⟨b2, o2 + j * 3 + 2, none⟩) hb2o).trans ((hB.out.cell (p := ⟨b2, o2 + j * 3 + 2, none⟩) hb2).trans k2)
          have HTJ : Hid ((day.take (j + 1)).flatMap verts = (day.take j).flatMap verts ++ verts day[j]) := by unfold Hid; rw [List.take_add_one, List.getElem?_eq_getElem hjl, List.flatMap_append]; simp
          have HRI : Hid (DaysP n ds → RisesP n day[j]) := fun H => H.tog.up _ (List.mem_flatten.2 ⟨day, HDM.out, List.getElem_mem hjl⟩)
          have HDU : Hid (DaysP n ds → ∀ k (hk : k < 3), (verts day[j])[k]'hk ∉ (day.take j).flatMap verts ++ (verts day[j]).take k) := fun H k hk => day_dup hjl hk (H.nd day HDM.out)
          generalize day[j] = t at *
          obtain ⟨t0, t1, t2⟩ := t
          simp only at m0 m1 m2
          clear k0 k1 k2 hc2
          obtain ⟨B9, hB9⟩ : ∃ B9, Hid (B9 = wr.heap.size) := ⟨_, rfl⟩
          obtain ⟨X, hX⟩ : ∃ X, Hid (X = wr.alloc (.cells #[.int .i64 t0, .int .i64 t1, .int .i64 t2] 44)) := ⟨_, rfl⟩
          have HBX : Hid (Below wo.heap.size wo X) := by rw [hX.out]; exact hBq.out.alloc hwq _
          have hBX9 : B9 < X.heap.size := by rw [hB9.out, hX.out]; simp
          have e0 : X.cell? ⟨B9, 0, none⟩ = some (.int .i64 t0) := by rw [hB9.out, hX.out]; simp
          have e1 : X.cell? ⟨B9, 1, none⟩ = some (.int .i64 t1) := by rw [hB9.out, hX.out]; simp
          have e2 : X.cell? ⟨B9, 2, none⟩ = some (.int .i64 t2) := by rw [hB9.out, hX.out]; simp
          have HRS := Lib.hid (Rises_any n t0 t1 t2 X)
          have HBO : Hid (∀ W, Below X.heap.size X W → Below wo.heap.size wo W) := fun W h => HBX.out.trans (h.mono HBX.out.size)
          go_upto_region 12 with (fail)
          rw [← hB9.out, ← hX.out]
          clear hX hBq m0 m1 m2 r1
          by_cases hr : RisesP n (t0, t1, t2)
          · rw [decide_eq_true hr] at HRS
            obtain ⟨h0, h1, h2, h3⟩ := hr
            simp only at h0 h1 h2 h3
            obtain ⟨x, rfl⟩ : ∃ x : Nat, t0 = (x : Int) := ⟨t0.toNat, by omega⟩
            obtain ⟨y, rfl⟩ : ∃ y : Nat, t1 = (y : Int) := ⟨t1.toNat, by omega⟩
            obtain ⟨z, rfl⟩ : ∃ z : Nat, t2 = (z : Int) := ⟨t2.toNat, by omega⟩
            have hxy : x < y := by omega
            have hyz : y < z := by omega
            have hzn : z < n := by omega
            clear h0 h1 h2 h3
            have HDX : Hid (DaysP n ds → x ∉ mk ∧ y ∉ mk ∧ z ∉ mk) := fun H => by
              have k0 := HDU.out H 0 (by omega)
              have k1 := HDU.out H 1 (by omega)
              have k2 := HDU.out H 2 (by omega)
              rw [hV.out] at k0 k1 k2
              exact ⟨fun h => k0 (List.mem_append_left _ (mem_castL.2 h)), fun h => k1 (List.mem_append_left _ (mem_castL.2 h)), fun h => k2 (List.mem_append_left _ (mem_castL.2 h))⟩
            have HM2 : Hid (IsSet (sn ||| pw3 x y z) (mk ++ [x, y, z])) := hM.out.add x y z
            have HAP := Lib.hid (hM.out.apart x y z)
            have HN2 : Hid (∀ u ∈ mk ++ [x, y, z], u < n) := fun u hu => by
              rcases List.mem_append.1 hu with h | h
              · exact hMn.out u h
              · simp at h; omega
            have hsn2 : sn ||| pw3 x y z < 134217728 := Nat.lt_of_lt_of_le (HM2.out.lt HN2.out) (Nat.pow_le_pow_right (n := 2) (i := n) (j := 27) (by decide) hn)
            have HV2 : Hid ((day.take (j + 1)).flatMap verts = castL (mk ++ [x, y, z])) := by
              unfold Hid
              rw [HTJ.out, castL_app, hV.out]
              rfl
            have px := pw_27 (show x < 40 by omega)
            have py := pw_27 (show y < 40 by omega)
            have pz := pw_27 (show z < 40 by omega)
            have wx : wrap64 (2 ^ x) = ((pw x : Nat) : Int) := wrap_pw (by omega)
            have wy : wrap64 (2 ^ y) = ((pw y : Nat) : Int) := wrap_pw (by omega)
            have wz : wrap64 (2 ^ z) = ((pw z : Nat) : Int) := wrap_pw (by omega)
            have o1 := or_27 px py
            have pxy : pw x ||| pw y < 1099511627776 := Nat.or_lt_two_pow (n := 40) px py
            have p3 : pw3 x y z < 1099511627776 := Nat.or_lt_two_pow (n := 40) pxy pz
            have o2 : bits .or .i64 ((pw x ||| pw y : Nat) : Int) ((pw z : Nat) : Int) = ((pw3 x y z : Nat) : Int) := or_27 pxy pz
            have a1 := and_27 (show sn < 1099511627776 by omega) p3
            have o3 := or_27 (show sn < 1099511627776 by omega) p3
            generalize sn ||| pw3 x y z = sn2 at *
            generalize hg1 : pw3 x y z = s3 at *
            clear hg1
            generalize hg2 : sn &&& s3 = sa at *
            clear hg2
            generalize hg3 : pw x ||| pw y = sxy at *
            clear hg3
            go_upto_region 14 with (go_at_call 44; refine HRS.out.mono ?_; rintro e w1 ⟨rfl, hB1⟩; have HB1 := Lib.hid hB1; clear hB1)
            have hX1 : X.heap.size ≤ w1.heap.size := HB1.out.size
            have hB91 : B9 < w1.heap.size := by omega
            have f0 : ∀ d : BW w1.heap.size w1, d.w.cell? ⟨B9, 0, none⟩ = some (.int .i64 (x : Int)) := fun d => d.cell hB91 ((HB1.out.cell (p := ⟨B9, 0, none⟩) hBX9).trans e0)
            have f1 : ∀ d : BW w1.heap.size w1, d.w.cell? ⟨B9, 1, none⟩ = some (.int .i64 (y : Int)) := fun d => d.cell hB91 ((HB1.out.cell (p := ⟨B9, 1, none⟩) hBX9).trans e1)
            have f2 : ∀ d : BW w1.heap.size w1, d.w.cell? ⟨B9, 2, none⟩ = some (.int .i64 (z : Int)) := fun d => d.cell hB91 ((HB1.out.cell (p := ⟨B9, 2, none⟩) hBX9).trans e2)
            have HBD : Hid (∀ d : BW w1.heap.size w1, Below wo.heap.size wo d.w) := fun d => HBO.out _ (HB1.out.trans (d.b.mono hX1))
            clear HRS e0 e1 e2 HBX HBO HDU HRI HZ
            refine wp_region_bw (by kernel_rfl) (by kernel_rfl) ?_
            repeat (go_big_quiet_step (rfl))
            refine wpQuiet_nil ?_
            rintro _ ⟨d, rfl⟩
            have HB2 := Lib.hid (HBD.out d)
            clear f0 f1 f2 HBD wx wy wz o1 o2
            generalize d.w = wd at *
            have hBF : Hid (Below w.heap.size w wd) := hB.out.trans (HB2.out.mono hwr)
            by_cases hap : sa = 0
            · have HND : Hid (mk ++ [x, y, z]).Nodup := by
                obtain ⟨q1, q2, q3⟩ := HAP.out.1 hap
                exact three_nodup hN.out hxy hyz q1 q2 q3
              subst hap
              clear hV hN hM hMn
              go_wp2
              exact ⟨⟨j + 1, sn2, mk ++ [x, y, z], by omega, int_eq (by omega), rfl, hsn2, HM2, HN2, HV2, HND, HB2⟩, by simp [intOf]; omega⟩
            · have HF : Hid (¬ DaysP n ds) := fun H => hap (HAP.out.2 (HDX.out H))
              have q1 : ((sa : Int) == 0) = false := by simp; omega
              go_wp2
              go_ret
              exact ⟨⟨false, rfl, ⟨fun h => (by cases h), fun H => (HF.out H).elim⟩⟩, hBF.out⟩
          · rw [decide_eq_false hr] at HRS
            have HF : Hid (¬ DaysP n ds) := fun H => hr (HRI.out H)
            clear hr HDU HRI
            go_wp2_with (go_at_call 44; refine HRS.out.mono ?_; rintro e w1 ⟨rfl, hB1⟩; have HB1 : Hid (Below w.heap.size w w1) := hB.out.trans ((HBO.out _ hB1).mono hwr); clear hB1)
            go_ret
            exact ⟨⟨false, rfl, ⟨fun h => (by cases h), fun H => (HF.out H).elim⟩⟩, HB1.out⟩
        · have g2 : ¬ (j : Int) < (dl : Int) := by omega
          obtain rfl : dl = j := by omega
          have HVM : Hid (day.flatMap verts = castL mk) := by
            have h1 := hV.out
            rw [List.take_of_length_le (by rw [hdl2.out]; exact Nat.le_refl _)] at h1
            exact h1
          have HVD : Hid (day.flatMap verts).Nodup := by
            unfold Hid
            rw [HVM.out, nodup_castL]
            exact hN.out
          have HLM : Hid (mk.length = 3 * dl) := by
            have h1 := congrArg List.length HVM.out
            have h2 : ∀ l : List Z3, (l.flatMap verts).length = 3 * l.length := fun l => by
              induction l with
              | nil => rfl
              | cons a l ih => rw [List.flatMap_cons, List.length_append, ih]; show 3 + 3 * l.length = 3 * (l.length + 1); omega
            rw [h2, hdl2.out] at h1
            unfold castL at h1
            rw [List.length_map] at h1
            exact h1.symm
          have HFU : Hid (sn = F ↔ 3 * dl = n) := by
            rw [Hid, ← HF0.out, hM.out.full hMn.out hN.out, HLM.out]
          have hBr : Hid (Below w.heap.size w wr) := hB.out.trans (hBq.out.mono hwr)
          have hwr2 : w.heap.size ≤ wr.heap.size := hBr.out.size
          clear hV hN hM hMn
          by_cases h3 : sn = F
          · have h3' := HFU.out.1 h3
            have q1 : ((sn : Int) != (F : Int)) = false := by simp; omega
            by_cases h4 : al ≤ N
            · have h4' : ¬ (N : Int) < (al : Int) := by omega
              have HQA : Hid (QRow wr w.heap.size 44 3 (.slice p5 al c5) al (zcells A)) := hQ.out.below hBq.out (fun k hk => (hQ.out.lt k hk).2)
              have HSD : Hid (Src wr q dl 3 (zcells day)) := by
                have := ((HZ.out.below hB.out (Nat.le_refl _)).below hBq.out (Nat.le_refl _)).src
                rw [hdl2.out] at this
                exact this
              have HO0 : Hid (∀ u ∈ zcells day, u.oneCell' = true) := fun u hu => by
                obtain ⟨t, _, ht⟩ := List.mem_flatMap.1 hu
                unfold zc3 at ht
                simp at ht
                rcases ht with rfl | rfl | rfl <;> rfl
              have HDN : Hid (∀ d ∈ ds.take (i + 1), (d.flatMap verts).Nodup ∧ 3 * d.length = n) := fun d hd => by
                rw [HTK.out] at hd
                rcases List.mem_append.1 hd with h | h
                · exact hD.out d h
                · rw [List.mem_singleton.1 h]; exact ⟨HVD.out, by rw [hdl2.out]; exact h3'⟩
              have HAN : Hid (A ++ day = (ds.take (i + 1)).flatten) := by unfold Hid; rw [HTK.out, List.flatten_append, hA.out]; simp
              have HLN : Hid ((A ++ day).length = al + dl) := by unfold Hid; rw [List.length_append, hAl.out, hdl2.out]
              have HZN : Hid (zcells (A ++ day) = zcells A ++ zcells day) := by unfold Hid zcells; rw [List.flatMap_append]
              clear hBq hQ hB
              have wpn := HWP.out
              go_wp2_with (at_builtin; clear wpn; go_must (refine wpList_append_qq _ rfl (.tmp 74) (.tmp 78) 33 rfl w.heap.size 44 i0 _ 3 24 underT hi0 hz0 hz1 hz2 rfl (by decide) _ al (zcells A) rfl HQA.out q dl cq (zcells day) rfl HSD.out HO0.out (by unfold maxLen; omega) (by omega) (by omega) ?_); intro v6 w6 hq6 hg6 ho6; have HQ6 := Lib.hid hq6; have HG6 := Lib.hid hg6; clear hq6 hg6 ho6)
              have HB6 : Hid (Below w.heap.size w w6) := Below.grown hBr.out HG6.out hBr.out.size (fun kk e => (HQA.out.lt kk e).1)
              refine ⟨⟨i + 1, al + dl, A ++ day, by omega, int_eq (by omega), HAN, HLN, ?_, by omega, HDN, HB6⟩, by simp [intOf]; omega⟩
              unfold Hid
              rw [HZN.out]
              exact HQ6.out
            · have HF : Hid (¬ DaysP n ds) := fun H => by
                have h5 := H.tog.len
                have h6 : (ds.take i).flatten.length ≤ ds.flatten.length := by
                  conv => rhs; rw [← List.take_append_drop i ds, List.flatten_append, List.length_append]
                  exact Nat.le_add_right _ _
                rw [← hA.out, hAl.out] at h6
                have h7 : n * (n - 1) ≤ n * n := Nat.mul_le_mul (Nat.le_refl _) (by omega)
                rw [HN.out] at h7
                omega
              have h4' : (N : Int) < (al : Int) := by omega
              have wpn := HWP.out
              go_wp2
              go_ret
              exact ⟨⟨false, rfl, ⟨fun h => (by cases h), fun H => (HF.out H).elim⟩⟩, hBr.out⟩
          · have HF : Hid (¬ DaysP n ds) := fun H => h3 (HFU.out.2 (by have := H.len day HDM.out; rw [hdl2.out] at this; exact this))
            have q1 : ((sn : Int) != (F : Int)) = true := by simp; omega
            have wpn := HWP.out
            go_wp2
            go_ret
            exact ⟨⟨false, rfl, ⟨fun h => (by cases h), fun H => (HF.out H).elim⟩⟩, hBr.out⟩
    · have g1 : ¬ (i : Int) < (len : Int) := by omega
      obtain rfl : len = i := by omega
      have HE : Hid (ds.take len = ds) := by unfold Hid; rw [List.take_of_length_le (by rw [HL.out]; exact Nat.le_refl _)]
      rw [HE.out] at hA hD
      have HZA : Hid (ZRow wo w.heap.size (.slice p5 al c5) A) := by
        unfold Hid ZRow
        rw [hAl.out]
        exact hQ.out
      have HZ : Hid (SrcZ wo p5 A) := ZRow.src HZA.out
      have HIT := Lib.hid (together_any n p5 c5 A wo hn3 hn (by rw [hAl.out]; omega) HZ.out)
      rw [hAl.out] at HIT
      have HDT : Hid (DaysP n ds ↔ TogP n A) := ⟨fun h => (by rw [hA.out]; exact h.tog), fun h => ⟨(by rw [hA.out] at h; exact h), fun d hd => (hD.out d hd).1, fun d hd => (hD.out d hd).2⟩⟩
      by_cases hT : TogP n A
      · go_wp2_with (go_at_call 43; refine HIT.out.mono ?_; rintro e w3 ⟨ht, hB3⟩; obtain rfl := ht.yes hT; have HB3 : Hid (Below w.heap.size w w3) := hB.out.trans (hB3.mono hwr); clear ht hB3)
        go_ret
        exact ⟨⟨true, rfl, ⟨fun _ => HDT.out.2 hT, fun _ => rfl⟩⟩, HB3.out⟩
      · go_wp2_with (go_at_call 43; refine HIT.out.mono ?_; rintro e w3 ⟨ht, hB3⟩; obtain rfl := ht.no hT; have HB3 : Hid (Below w.heap.size w w3) := hB.out.trans (hB3.mono hwr); clear ht hB3)
        go_ret
        exact ⟨⟨false, rfl, ⟨fun h => (by cases h), fun H => (hT (HDT.out.1 H)).elim⟩⟩, HB3.out⟩
set_option maxRecDepth 100000 in
theorem RIsDays_any (n : Int) (p : Option Addr) (c : Nat) (ds : List (List Z3)) (w : World) (hl : ds.length ≤ 1000) (hl2 : ∀ d ∈ ds, d.length ≤ 1000) (hS : SrcD w p ds) :
    Calls Try.prog 21 #[.int .i64 n, .slice p ds.length c] w fun e w' => TellsP ((3 ≤ n ∧ n ≤ 27) ∧ DaysP n.toNat ds) e ∧ Below w.heap.size w w' := by
  by_cases hr : 3 ≤ n ∧ n ≤ 27
  · obtain ⟨m, rfl⟩ : ∃ m : Nat, n = (m : Int) := ⟨n.toNat, by omega⟩
    refine (RIsDays_in m p c ds w (by omega) (by omega) hl hl2 hS).mono fun e w' h => ⟨?_, h.2⟩
    obtain ⟨b, e1, e2⟩ := h.1
    exact ⟨b, e1, e2.trans ⟨fun h => ⟨hr, h⟩, fun h => h.2⟩⟩
  · have HF : Hid (¬ ((3 ≤ n ∧ n ≤ 27) ∧ DaysP n.toNat ds)) := fun h => hr h.1
    obtain ⟨len, HL⟩ : ∃ len, Hid (ds.length = len) := ⟨_, rfl⟩
    rw [HL.out]
    obtain ⟨PP, hPP⟩ : ∃ PP, Hid (PP = ((3 ≤ n ∧ n ≤ 27) ∧ DaysP n.toNat ds)) := ⟨_, rfl⟩
    rw [← hPP.out] at HF ⊢
    clear hl hl2 hS hPP
    by_cases h3 : n < 3
    · go_enter Try.func21, Try.ntmps21
      go_wp2
      go_ret
      exact ⟨⟨false, rfl, ⟨fun h => (by cases h), fun H => (HF.out H).elim⟩⟩, Below.refl _ _⟩
    · have h4 : 27 < n := by omega
      clear hr
      go_enter Try.func21, Try.ntmps21
      go_wp2
      go_ret
      exact ⟨⟨false, rfl, ⟨fun h => (by cases h), fun H => (HF.out H).elim⟩⟩, Below.refl _ _⟩
theorem RIsTri_yes (n : Nat) (p : Option Addr) (c : Nat) (l : List Z3) (w : World) (hn3 : 3 ≤ n) (hn : n ≤ 27) (hl : l.length ≤ 1000) (hS : SrcZ w p l) (h : SysP n l) :
    Calls Try.prog 20 #[.int .i64 (n : Int), .slice p l.length c] w fun e w' => e = .returned (.bool true) ∧ Below w.heap.size w w' :=
  (RIsTri_any n p c l w hl hS).mono fun _ _ k => ⟨k.1.yes ⟨⟨by omega, by omega⟩, by simpa using h⟩, k.2⟩
theorem RIsDays_yes (n : Nat) (p : Option Addr) (c : Nat) (ds : List (List Z3)) (w : World) (hn3 : 3 ≤ n) (hn : n ≤ 27) (hl : ds.length ≤ 1000) (hl2 : ∀ d ∈ ds, d.length ≤ 1000) (hS : SrcD w p ds) (h : DaysP n ds) :
    Calls Try.prog 21 #[.int .i64 (n : Int), .slice p ds.length c] w fun e w' => e = .returned (.bool true) ∧ Below w.heap.size w w' :=
  (RIsDays_any n p c ds w hl hl2 hS).mono fun _ _ k => ⟨k.1.yes ⟨⟨by omega, by omega⟩, by simpa using h⟩, k.2⟩
end Go.Proofs.Ytocnhikohfkcaaa
namespace Go.Proofs.Ytocnhikohfkcaaa
open Go.RowKit Go.Shelf
attribute [local go_sem] Oper.semAt_some

def castP (L : List (Nat × Nat)) : List I2 := L.map fun p => ((p.1 : Int), (p.2 : Int))
def bothN (p : Nat × Nat) : List (Nat × Nat) := [(p.1, p.2), (p.2, p.1)]
def endsN (p : Nat × Nat) : List Nat := [p.1, p.2]
theorem castP_app (a b : List (Nat × Nat)) : castP (a ++ b) = castP a ++ castP b := by unfold castP; rw [List.map_append]
theorem both_cast (L : List (Nat × Nat)) : (castP L).flatMap both = castP (L.flatMap bothN) := by
  induction L with
  | nil => rfl
  | cons p L ih => rw [List.flatMap_cons, castP_app, ← ih]; rfl
theorem ends_cast (L : List (Nat × Nat)) : (castP L).flatMap ends = castL (L.flatMap endsN) := by
  induction L with
  | nil => rfl
  | cons p L ih => rw [List.flatMap_cons, castL_app, ← ih]; rfl
theorem mem_castP {L : List (Nat × Nat)} {u v : Nat} : ((u : Int), (v : Int)) ∈ castP L ↔ (u, v) ∈ L := by
  unfold castP
  rw [List.mem_map]
  constructor
  · rintro ⟨⟨a, b⟩, hy, e⟩
    have e1 : (a : Int) = (u : Int) := (Prod.mk.inj e).1
    have e2 : (b : Int) = (v : Int) := (Prod.mk.inj e).2
    rw [show u = a by omega, show v = b by omega]; exact hy
  · exact fun h => ⟨(u, v), h, rfl⟩
theorem nodup_castP {L : List (Nat × Nat)} : (castP L).Nodup ↔ L.Nodup := by
  constructor
  · exact nodup_of_map _
  · intro h
    induction L with
    | nil => exact List.nodup_nil
    | cons a L ih =>
      rw [List.nodup_cons] at h
      show (((a.1 : Int), (a.2 : Int)) :: castP L).Nodup
      rw [List.nodup_cons, mem_castP]
      exact ⟨h.1, ih h.2⟩
theorem flat_dup {α β : Type} (f : α → List β) {pre post : List α} {x : α} (h : ((pre ++ x :: post).flatMap f).Nodup) : ∀ y ∈ f x, y ∉ pre.flatMap f := fun y hy hm => by
  rw [List.flatMap_append, List.flatMap_cons, List.nodup_append] at h
  exact h.2.2 y hm y (List.mem_append_left _ hy) rfl
theorem IsSet.add2 {a : Nat} {l : List Nat} (h : IsSet a l) (x y : Nat) : IsSet (a ||| pw x ||| pw y) (l ++ [x, y]) := fun k => by
  rw [Nat.testBit_or, Nat.testBit_or, h k, testBit_pw, testBit_pw, Bool.eq_iff_iff]
  simp only [Bool.or_eq_true, decide_eq_true_eq, List.mem_append, List.mem_cons, List.not_mem_nil, or_false]
  constructor
  · rintro ((h | h) | h)
    · exact .inl h
    · exact .inr (.inl h.symm)
    · exact .inr (.inr h.symm)
  · rintro (h | h | h)
    · exact .inl (.inl h)
    · exact .inl (.inr h.symm)
    · exact .inr h.symm
theorem both_sym {L : List (Nat × Nat)} {u v : Nat} (h : (u, v) ∈ L.flatMap bothN) : (v, u) ∈ L.flatMap bothN := by
  obtain ⟨⟨a, b⟩, hp, hm⟩ := List.mem_flatMap.1 h
  refine List.mem_flatMap.2 ⟨(a, b), hp, ?_⟩
  unfold bothN at hm ⊢
  simp at hm ⊢
  rcases hm with ⟨rfl, rfl⟩ | ⟨rfl, rfl⟩
  · exact .inr ⟨rfl, rfl⟩
  · exact .inl ⟨rfl, rfl⟩
/-- a round's rows so far -/
def RowOk (n : Nat) (d : List I2) : Prop := d.length = n / 2 ∧ (∀ p ∈ d, (0 ≤ p.1 ∧ p.1 < (n : Int)) ∧ (0 ≤ p.2 ∧ p.2 < (n : Int)) ∧ p.1 ≠ p.2) ∧ (d.flatMap ends).Nodup
def ChkP (z : Int) (s : List (List I2)) (v : Int) : Prop := (¬ EvP z ∧ v = 1) ∨ (EvP z ∧ SchI z.toNat s ∧ v = 0) ∨ (EvP z ∧ ¬ SchI z.toNat s ∧ v = 90)
theorem bit_of (a k : Nat) : tb a k = (if a.testBit k then 1 else 0) := by unfold tb; cases a.testBit k <;> rfl
theorem shr_tb (a k : Nat) : shr a k % 2 = tb a k := by rw [tb_eq]; rfl
theorem or_mod2 (x y : Nat) : (x ||| y) % 2 = (if x % 2 = 1 ∨ y % 2 = 1 then 1 else 0) := by
  have h := Nat.testBit_or x y 0
  rw [Nat.testBit_zero, Nat.testBit_zero, Nat.testBit_zero] at h
  split
  · rename_i hc
    have : decide ((x ||| y) % 2 = 1) = true := by rw [h]; simpa using hc
    exact of_decide_eq_true this
  · rename_i hc
    have : decide ((x ||| y) % 2 = 1) = false := by rw [h]; simp; omega
    have := of_decide_eq_false this
    omega
theorem seen_bit {sn a b : Nat} (h : sn < 65536) : ((bits .or .i64 ((shr sn a : Nat) : Int) ((shr sn b : Nat) : Int)).tmod 2 == 1) = (sn.testBit a || sn.testBit b) := by
  have hs : Sm sn := sm_of (by omega)
  have e : (shr sn a ||| shr sn b) % 2 = if sn.testBit a ∨ sn.testBit b then 1 else 0 := by
    rw [or_mod2, shr_tb, shr_tb, bit_of, bit_of]
    cases sn.testBit a <;> cases sn.testBit b <;> rfl
  rw [bor _ _ (sm_shr a hs) (sm_shr b hs), Int.tmod_eq_emod_of_nonneg (by omega), show (((shr sn a ||| shr sn b : Nat) : Int) % 2) = (((shr sn a ||| shr sn b) % 2 : Nat) : Int) by push_cast; rfl, e]
  cases sn.testBit a <;> cases sn.testBit b <;> rfl
set_option maxRecDepth 100000 in
set_option maxHeartbeats 16000000 in
theorem RCheck_in (n : Nat) (p : Option Addr) (c : Nat) (s : List (List I2)) (w : World) (h2 : 2 ≤ n) (h16 : n ≤ 16) (hev : n % 2 = 0) (hS : SrcS w p s) :
    Calls Try.prog 15 #[.int .i64 (n : Int), .slice p s.length c] w fun e w' => (∃ v : Int, e = .returned (.int .i64 v) ∧ ((SchI n s ∧ v = 0) ∨ (¬ SchI n s ∧ v = 90))) ∧ Below w.heap.size w w' := by
  have HE := Lib.hid (REven_any (n : Int) w)
  rw [decide_eq_true (show EvP (n : Int) from ⟨by omega, by omega, by simpa using hev⟩)] at HE
  have HS := Lib.hid hS
  obtain ⟨N, HN, hNB⟩ : ∃ N, Hid (n * n = N) ∧ N ≤ 256 := ⟨n * n, rfl, Nat.mul_le_mul h16 h16⟩
  have eN : (n : Int) * (n : Int) = (N : Int) := by rw [← HN.out]; push_cast; rfl
  obtain ⟨h, hh⟩ : ∃ h, Hid (n / 2 = h) := ⟨_, rfl⟩
  have hdiv : Int.tdiv (n : Int) 2 = (h : Int) := by have := hh.out; rw [Int.tdiv_eq_ediv_of_nonneg (by omega)]; omega
  have hh8 : h ≤ 8 := by have := hh.out; omega
  obtain ⟨len, HL⟩ : ∃ len, Hid (s.length = len) := ⟨_, rfl⟩
  rw [HL.out]
  clear hS
  go_enter Try.func15, Try.ntmps15
  by_cases hlen : len = n - 1
  · have q1 : ((len : Int) != ((n : Int) - 1)) = false := by simp; omega
    have hl15 : len ≤ 15 := by omega
    obtain ⟨vs, hvs, hmk⟩ := makeMarks N (by omega)
    have hmk := hmk w
    have HM0 : Hid (MarkN (w.alloc (.cells vs 4)) w.heap.size N []) := hvs w
    have HB0 : Hid (Below w.heap.size w (w.alloc (.cells vs 4))) := (Below.refl _ _).alloc (Nat.le_refl _) _
    clear hvs
    go_upto_region 7 with (go_at_call 12; refine HE.out.mono ?_; rintro e w4 ⟨rfl, hw4⟩; replace hw4 := hw4.symm; subst hw4; try dsimp only)
    obtain ⟨M, hM⟩ : ∃ M, Hid (M = w.heap.size) := ⟨_, rfl⟩
    rw [← hM.out] at HM0 ⊢
    generalize (w.alloc (.cells vs 4)) = U at *
    clear hmk HE q1
    go_loopw [6] (fun s6 wr => ∃ (i : Nat) (L : List (Nat × Nat)), i ≤ len ∧ s6 = .int .i64 (i : Int) ∧ Hid ((s.take i).flatten = castP L) ∧ Hid (L.flatMap bothN).Nodup ∧ Hid (∀ p ∈ L.flatMap bothN, p.1 < n ∧ p.2 < n) ∧ Hid (∀ d ∈ s.take i, RowOk n d) ∧ Hid (MarkN wr M N ((L.flatMap bothN).map fun p => p.1 * n + p.2)) ∧ Hid (Below w.heap.size w wr)) (fun s6 _ => len - (intOf s6).toNat)
    case atStart => exact ⟨0, [], by omega, rfl, rfl, List.nodup_nil, (fun p hp => by cases hp), (fun d hd => by cases hd), HM0, HB0⟩
    case round =>
      clear HM0 HB0
      obtain ⟨i, L, hi, rfl, hLf, hLn, hLb, hRo, hMr, hB⟩ := hrel
      have hwr : w.heap.size ≤ wr.heap.size := hB.out.size
      by_cases hin : i < len
      · have g1 : (i : Int) < (len : Int) := by omega
        have hil : i < s.length := by rw [HL.out]; exact hin
        obtain ⟨b, o, rfl, hb, hcs⟩ := HS.out (by omega)
        obtain ⟨q, cq, k1, hcq, hz⟩ := hcs i hil
        have HDM : Hid (s[i] ∈ s) := List.getElem_mem hil
        have HTK : Hid (s.take (i + 1) = s.take i ++ [s[i]]) := by unfold Hid; rw [List.take_add_one, List.getElem?_eq_getElem hil]; rfl
        have HSP : Hid (s.flatten = (s.take i).flatten ++ (s[i] ++ (s.drop (i + 1)).flatten)) := by
          unfold Hid
          conv => lhs; rw [← List.take_append_drop i s, List.flatten_append, List.drop_eq_getElem_cons hil, List.flatten_cons]
        have HR1 : Hid (∀ W, Below w.heap.size w W → W.cell? ⟨b, o + i, none⟩ = some (.slice q (s[i]).length cq)) := fun W hW => (hW.cell (p := ⟨b, o + i, none⟩) hb).trans k1
        have HZ := Lib.hid hz
        generalize s[i] = day at *
        obtain ⟨dl, hdl⟩ : ∃ dl, Hid (day.length = dl) := ⟨_, rfl⟩
        rw [hdl.out] at HR1 hcq
        clear hcs k1 hz
        have r1 := HR1.out wr hB.out
        by_cases hrow : dl = h
        · have q2 : ((dl : Int) != (h : Int)) = false := by simp; omega
          go_upto_region 13 with (fail)
          clear r1 q2
          go_loopw [7, 8] (fun s7 s8 wq => ∃ (j sn : Nat) (R : List (Nat × Nat)), j ≤ dl ∧ s8 = .int .i64 (j : Int) ∧ s7 = .int .i64 (sn : Int) ∧ sn < 65536 ∧ Hid (day.take j = castP R) ∧ Hid (IsSet sn (R.flatMap endsN)) ∧ Hid (R.flatMap endsN).Nodup ∧ Hid ((L ++ R).flatMap bothN).Nodup ∧ Hid (∀ p ∈ (L ++ R).flatMap bothN, p.1 < n ∧ p.2 < n) ∧ Hid (∀ p ∈ day.take j, (0 ≤ p.1 ∧ p.1 < (n : Int)) ∧ (0 ≤ p.2 ∧ p.2 < (n : Int)) ∧ p.1 ≠ p.2) ∧ Hid (MarkN wq M N (((L ++ R).flatMap bothN).map fun p => p.1 * n + p.2)) ∧ Hid (Below w.heap.size w wq)) (fun _ s8 _ => dl - (intOf s8).toNat)
          case atStart => exact ⟨0, 0, [], by omega, rfl, rfl, by omega, rfl, IsSet.zero, List.nodup_nil, by rw [List.append_nil]; exact hLn, by rw [List.append_nil]; exact hLb, (fun p hp => by cases hp), by rw [List.append_nil]; exact hMr, hB⟩
          case round =>
            clear hMr hB
            obtain ⟨j, sn, R, hj, rfl, rfl, hsn, hRd, hRs, hRn, hKn, hKb, hRr, hMq, hBq⟩ := hrel
            have r1 := HR1.out wr hBq.out
            have hwr2 : w.heap.size ≤ wr.heap.size := hBq.out.size
            by_cases hjd : j < dl
            · have g2 : (j : Int) < (dl : Int) := by omega
              have hjl : j < day.length := by rw [hdl.out]; exact hjd
              obtain ⟨b2, o2, rfl, hb2, hc2⟩ := HZ.out (by omega)
              obtain ⟨c0, c1⟩ := hc2 j hjl
              have HTJ : Hid (day.take (j + 1) = day.take j ++ [day[j]]) := by unfold Hid; rw [List.take_add_one, List.getElem?_eq_getElem hjl]; rfl
              have HJM : Hid (day[j] ∈ day) := List.getElem_mem hjl
              have HJS : Hid (day = day.take j ++ day[j] :: day.drop (j + 1)) := by unfold Hid; rw [← List.drop_eq_getElem_cons hjl, List.take_append_drop]
              generalize day[j] = t at *
              obtain ⟨x, y⟩ := t
              simp only at c0 c1
              have hbw : b < wr.heap.size := by omega
              have hb2w : b2 < wr.heap.size := by omega
              have d1 : ∀ d : BW wr.heap.size wr, d.w.cell? ⟨b, o + i, none⟩ = some (.slice (some ⟨b2, o2, none⟩) dl cq) := fun d => d.cell hbw r1
              have d2 : ∀ d : BW wr.heap.size wr, d.w.cell? ⟨b2, o2 + j * 2, none⟩ = some (.int .i64 x) := fun d => d.cell hb2w ((hBq.out.cell (p := ⟨b2, o2 + j * 2, none⟩) hb2).trans c0)
              have d3 : ∀ d : BW wr.heap.size wr, d.w.cell? ⟨b2, o2 + j * 2 + 1, none⟩ = some (.int .i64 y) := fun d => d.cell hb2w ((hBq.out.cell (p := ⟨b2, o2 + j * 2 + 1, none⟩) hb2).trans c1)
              have HMD : Hid (∀ d : BW wr.heap.size wr, MarkN d.w M N (((L ++ R).flatMap bothN).map fun p => p.1 * n + p.2)) := fun d => hMq.out.below d.b hMq.out.lt
              have HBD : Hid (∀ d : BW wr.heap.size wr, Below w.heap.size w d.w) := fun d => hBq.out.trans (d.b.mono hwr2)
              have di : decide (i < len) = true := by simpa using hin
              have dj : decide (j < dl) = true := by simpa using hjd
              clear c0 c1 hc2
              go_upto_region 15 with (fail)
              refine wp_region_bw (by kernel_rfl) (by kernel_rfl) ?_
              repeat (go_big_quiet_step (rfl))
              refine wpQuiet_nil ?_
              rintro _ ⟨d, rfl⟩
              have HM2 := Lib.hid (HMD.out d)
              have HB2 := Lib.hid (HBD.out d)
              clear HMD HBD d1 d2 d3 hMq hBq r1
              generalize d.w = wd at *
              have HBE : Hid (∀ d : BW wd.heap.size wd, Below w.heap.size w d.w) := fun d => HB2.out.trans (d.b.mono HB2.out.size)
              have hcase : (decide (x < 0) = true ∧ x < 0) ∨ (decide (x < 0) = false ∧ decide ((n : Int) ≤ x) = true ∧ (n : Int) ≤ x) ∨ (decide (x < 0) = false ∧ decide ((n : Int) ≤ x) = false ∧ decide (y < 0) = true ∧ y < 0) ∨
                  (decide (x < 0) = false ∧ decide ((n : Int) ≤ x) = false ∧ decide (y < 0) = false ∧ decide ((n : Int) ≤ y) = true ∧ (n : Int) ≤ y) ∨ (decide (x < 0) = false ∧ decide ((n : Int) ≤ x) = false ∧ decide (y < 0) = false ∧ decide ((n : Int) ≤ y) = false ∧ (x == y) = true ∧ x = y) ∨
                  (0 ≤ x ∧ x < (n : Int) ∧ 0 ≤ y ∧ y < (n : Int) ∧ x ≠ y) := by simp; omega
              rcases hcase with ⟨u1, v⟩ | ⟨u1, u2, v⟩ | ⟨u1, u2, u3, v⟩ | ⟨u1, u2, u3, u4, v⟩ | ⟨u1, u2, u3, u4, u5, v⟩ | ⟨x0, xn, y0, yn, hxy⟩
              · have HFF : Hid (¬ SchI n s) := fun H => by have := H.rng day HDM.out _ HJM.out; simp only at this; omega
                clear v
                go_wp2
                refine wp_region_bw (by kernel_rfl) (by kernel_rfl) ?_
                repeat (go_big_quiet_step (rfl))
                refine wpQuiet_nil ?_
                rintro _ ⟨d2, rfl⟩
                have HB3 := Lib.hid (HBE.out d2)
                go_wp2
                go_ret
                exact ⟨⟨90, rfl, .inr ⟨HFF.out, rfl⟩⟩, HB3.out⟩
              · have HFF : Hid (¬ SchI n s) := fun H => by have := H.rng day HDM.out _ HJM.out; simp only at this; omega
                clear v
                go_wp2
                refine wp_region_bw (by kernel_rfl) (by kernel_rfl) ?_
                repeat (go_big_quiet_step (rfl))
                refine wpQuiet_nil ?_
                rintro _ ⟨d2, rfl⟩
                have HB3 := Lib.hid (HBE.out d2)
                go_wp2
                go_ret
                exact ⟨⟨90, rfl, .inr ⟨HFF.out, rfl⟩⟩, HB3.out⟩
              · have HFF : Hid (¬ SchI n s) := fun H => by have := H.rng day HDM.out _ HJM.out; simp only at this; omega
                clear v
                go_wp2
                refine wp_region_bw (by kernel_rfl) (by kernel_rfl) ?_
                repeat (go_big_quiet_step (rfl))
                refine wpQuiet_nil ?_
                rintro _ ⟨d2, rfl⟩
                have HB3 := Lib.hid (HBE.out d2)
                go_wp2
                go_ret
                exact ⟨⟨90, rfl, .inr ⟨HFF.out, rfl⟩⟩, HB3.out⟩
              · have HFF : Hid (¬ SchI n s) := fun H => by have := H.rng day HDM.out _ HJM.out; simp only at this; omega
                clear v
                go_wp2
                refine wp_region_bw (by kernel_rfl) (by kernel_rfl) ?_
                repeat (go_big_quiet_step (rfl))
                refine wpQuiet_nil ?_
                rintro _ ⟨d2, rfl⟩
                have HB3 := Lib.hid (HBE.out d2)
                go_wp2
                go_ret
                exact ⟨⟨90, rfl, .inr ⟨HFF.out, rfl⟩⟩, HB3.out⟩
              · have HFF : Hid (¬ SchI n s) := fun H => by have := H.rng day HDM.out _ HJM.out; simp only at this; omega
                clear v
                go_wp2
                refine wp_region_bw (by kernel_rfl) (by kernel_rfl) ?_
                repeat (go_big_quiet_step (rfl))
                refine wpQuiet_nil ?_
                rintro _ ⟨d2, rfl⟩
                have HB3 := Lib.hid (HBE.out d2)
                go_wp2
                go_ret
                exact ⟨⟨90, rfl, .inr ⟨HFF.out, rfl⟩⟩, HB3.out⟩
              · obtain ⟨a, rfl⟩ : ∃ a : Nat, x = (a : Int) := ⟨x.toNat, by omega⟩
                obtain ⟨b9, rfl⟩ : ∃ b9 : Nat, y = (b9 : Int) := ⟨y.toNat, by omega⟩
                have han : a < n := by omega
                have hbn : b9 < n := by omega
                have hab : a ≠ b9 := by omega
                have u1 : decide ((a : Int) < 0) = false := by simp
                have u2 : decide (n ≤ a) = false := by simp; omega
                have u3 : decide ((b9 : Int) < 0) = false := by simp
                have u4 : decide (n ≤ b9) = false := by simp; omega
                have u5 : ((a : Int) == (b9 : Int)) = false := by simp; omega
                clear x0 xn y0 yn hxy
                have HSE : Hid (((bits .or .i64 ((shr sn a : Nat) : Int) ((shr sn b9 : Nat) : Int)).tmod 2 == 1) = (sn.testBit a || sn.testBit b9)) := seen_bit hsn
                have HSEH : Hid (((bits .or .i64 ((Hu.shr sn a : Nat) : Int) ((Hu.shr sn b9 : Nat) : Int)).tmod 2 == 1) = (sn.testBit a || sn.testBit b9)) := seen_bit hsn
                have HSP2 : Hid (s.flatten = ((s.take i).flatten ++ day.take j) ++ (((a : Int), (b9 : Int)) :: (day.drop (j + 1) ++ (s.drop (i + 1)).flatten))) := by
                  unfold Hid
                  rw [HSP.out]
                  conv => lhs; rw [HJS.out]
                  simp
                have HPRE : Hid ((s.take i).flatten ++ day.take j = castP (L ++ R)) := by unfold Hid; rw [castP_app, hLf.out, hRd.out]
                have HMET : Hid (SchI n s → (a, b9) ∉ (L ++ R).flatMap bothN ∧ (b9, a) ∉ (L ++ R).flatMap bothN) := fun H => by
                  have h1 := H.met
                  rw [HSP2.out, HPRE.out] at h1
                  have h2 := flat_dup both h1
                  rw [both_cast] at h2
                  exact ⟨fun hm => h2 ((a : Int), (b9 : Int)) (by simp [both]) (mem_castP.2 hm), fun hm => h2 ((b9 : Int), (a : Int)) (by simp [both]) (mem_castP.2 hm)⟩
                have HNDD : Hid (SchI n s → a ∉ R.flatMap endsN ∧ b9 ∉ R.flatMap endsN) := fun H => by
                  have h1 := H.nd day HDM.out
                  rw [HJS.out, hRd.out] at h1
                  have h2 := flat_dup ends h1
                  rw [ends_cast] at h2
                  exact ⟨fun hm => h2 (a : Int) (by simp [ends]) (mem_castL.2 hm), fun hm => h2 (b9 : Int) (by simp [ends]) (mem_castL.2 hm)⟩
                cases hse : (sn.testBit a || sn.testBit b9) with
                | true =>
                  have HFF : Hid (¬ SchI n s) := fun H => by
                    have h1 := hRs.out a
                    have h2 := hRs.out b9
                    rw [decide_eq_false (HNDD.out H).1] at h1
                    rw [decide_eq_false (HNDD.out H).2] at h2
                    rw [h1, h2] at hse
                    cases hse
                  have u6 := HSE.out
                  rw [hse] at u6
                  have u7 := HSEH.out
                  rw [hse] at u7
                  clear hse
                  go_wp2
                  refine wp_region_bw (by kernel_rfl) (by kernel_rfl) ?_
                  repeat (go_big_quiet_step (rfl))
                  refine wpQuiet_nil ?_
                  rintro _ ⟨d2, rfl⟩
                  have HB3 := Lib.hid (HBE.out d2)
                  go_wp2
                  go_ret
                  exact ⟨⟨90, rfl, .inr ⟨HFF.out, rfl⟩⟩, HB3.out⟩
                | false =>
                  have u6 := HSE.out
                  rw [hse] at u6
                  have u7 := HSEH.out
                  rw [hse] at u7
                  have HNS : Hid (a ∉ R.flatMap endsN ∧ b9 ∉ R.flatMap endsN) := by
                    have h1 := hRs.out a
                    have h2 := hRs.out b9
                    rw [Bool.or_eq_false_iff] at hse
                    rw [hse.1] at h1
                    rw [hse.2] at h2
                    exact ⟨of_decide_eq_false h1.symm, of_decide_eq_false h2.symm⟩
                  clear hse
                  have hkey : a * n + b9 < N := by rw [← HN.out]; exact key_bound han hbn
                  have hkey2 : b9 * n + a < N := by rw [← HN.out]; exact key_bound hbn han
                  have HIN : Hid (a * n + b9 ∈ ((L ++ R).flatMap bothN).map (fun p => p.1 * n + p.2) ↔ (a, b9) ∈ (L ++ R).flatMap bothN) := prI_mem (fun p hp => (hKb.out p hp).2) hbn
                  have HKE : Hid (((L ++ (R ++ [(a, b9)])).flatMap bothN).map (fun p => p.1 * n + p.2) = ((L ++ R).flatMap bothN).map (fun p => p.1 * n + p.2) ++ [a * n + b9] ++ [b9 * n + a]) := by
                    unfold Hid
                    rw [← List.append_assoc, List.flatMap_append, List.map_append, List.append_assoc]
                    rfl
                  have eu : (a : Int) * (n : Int) = ((a * n : Nat) : Int) := by push_cast; rfl
                  have ev : ((a * n : Nat) : Int) + (b9 : Int) = ((a * n + b9 : Nat) : Int) := by push_cast; rfl
                  have eu2 : (b9 : Int) * (n : Int) = ((b9 * n : Nat) : Int) := by push_cast; rfl
                  have ev2 : ((b9 * n : Nat) : Int) + (a : Int) = ((b9 * n + a : Nat) : Int) := by push_cast; rfl
                  have hun : a * n ≤ a * n + b9 := by omega
                  have hun2 : b9 * n ≤ b9 * n + a := by omega
                  obtain ⟨un, hun3⟩ : ∃ un, Hid (a * n = un) := ⟨_, rfl⟩
                  rw [hun3.out] at eu ev hkey hun HIN HKE
                  obtain ⟨ky, hky⟩ : ∃ ky, Hid (un + b9 = ky) := ⟨_, rfl⟩
                  rw [hky.out] at ev hkey hun HIN HKE
                  obtain ⟨un2, hun4⟩ : ∃ un2, Hid (b9 * n = un2) := ⟨_, rfl⟩
                  rw [hun4.out] at eu2 ev2 hkey2 hun2 HKE
                  obtain ⟨ky2, hky2⟩ : ∃ ky2, Hid (un2 + a = ky2) := ⟨_, rfl⟩
                  rw [hky2.out] at ev2 hkey2 hun2 HKE
                  have HCM : Hid (∀ d : BW wd.heap.size wd, MarkN d.w M N (((L ++ R).flatMap bothN).map fun p => p.1 * n + p.2)) := fun d => HM2.out.below d.b HM2.out.lt
                  have dk : decide (ky < N) = true := by simpa using hkey
                  by_cases hm : (a, b9) ∈ (L ++ R).flatMap bothN
                  · have HFF : Hid (¬ SchI n s) := fun H => (HMET.out H).1 hm
                    have r5 : ∀ d : BW wd.heap.size wd, d.w.cell? ⟨M, ky, none⟩ = some (.bool true) := fun d => by
                      rw [(HCM.out d).cell hkey]
                      rw [show (((L ++ R).flatMap bothN).map fun p => p.1 * n + p.2).elem ky = true from List.elem_eq_true_of_mem (HIN.out.2 hm)]
                    clear hm
                    have w1 : IntKind.i64.wrap (un : Int) = (un : Int) := wrap_small un (by omega)
                    have w2 : IntKind.i64.wrap (ky : Int) = (ky : Int) := wrap_small ky (by omega)
                    go_wp2
                    refine wp_region_bw (by kernel_rfl) (by kernel_rfl) ?_
                    repeat (go_big_quiet_step (rfl))
                    refine wpQuiet_nil ?_
                    rintro _ ⟨d2, rfl⟩
                    have HB3 := Lib.hid (HBE.out d2)
                    clear w1 w2
                    go_wp2
                    go_ret
                    exact ⟨⟨90, rfl, .inr ⟨HFF.out, rfl⟩⟩, HB3.out⟩
                  · have r5 : ∀ d : BW wd.heap.size wd, d.w.cell? ⟨M, ky, none⟩ = some (.bool false) := fun d => by
                      rw [(HCM.out d).cell hkey]
                      cases e : (((L ++ R).flatMap bothN).map fun p => p.1 * n + p.2).elem ky
                      · rfl
                      · exact (hm (HIN.out.1 (List.mem_of_elem_eq_true e))).elim
                    have w1 : IntKind.i64.wrap (un : Int) = (un : Int) := wrap_small un (by omega)
                    have w2 : IntKind.i64.wrap (ky : Int) = (ky : Int) := wrap_small ky (by omega)
                    go_wp2
                    refine wp_region_bw (by kernel_rfl) (by kernel_rfl) ?_
                    repeat (go_big_quiet_step (rfl))
                    refine wpQuiet_nil ?_
                    rintro _ ⟨d2, rfl⟩
                    clear w1 w2 r5
                    have HB3 := Lib.hid (HBE.out d2)
                    have HM3 := Lib.hid (HCM.out d2)
                    clear HBE HCM HB2 HM2
                    generalize d2.w = wf at *
                    have HES : Hid ((R ++ [(a, b9)]).flatMap endsN = R.flatMap endsN ++ [a, b9]) := by unfold Hid; rw [List.flatMap_append]; rfl
                    have HBS : Hid ((L ++ (R ++ [(a, b9)])).flatMap bothN = (L ++ R).flatMap bothN ++ [(a, b9), (b9, a)]) := by unfold Hid; rw [← List.append_assoc, List.flatMap_append]; rfl
                    have HRD2 : Hid (day.take (j + 1) = castP (R ++ [(a, b9)])) := by unfold Hid; rw [HTJ.out, castP_app, hRd.out]; rfl
                    have HES2 : Hid ((R ++ [(a, b9)]).flatMap endsN).Nodup := by
                      unfold Hid
                      rw [HES.out, List.nodup_append]
                      refine ⟨hRn.out, by simp [hab], fun u hu v hv e => ?_⟩
                      simp at hv
                      subst e
                      rcases hv with rfl | rfl
                      · exact HNS.out.1 hu
                      · exact HNS.out.2 hu
                    have HBS2 : Hid ((L ++ (R ++ [(a, b9)])).flatMap bothN).Nodup := by
                      unfold Hid
                      rw [HBS.out, List.nodup_append]
                      refine ⟨hKn.out, by simp [hab], fun u hu v hv e => ?_⟩
                      simp at hv
                      subst e
                      rcases hv with rfl | rfl
                      · exact hm hu
                      · exact hm (both_sym hu)
                    have HBB : Hid (∀ p ∈ (L ++ (R ++ [(a, b9)])).flatMap bothN, p.1 < n ∧ p.2 < n) := fun p hp => by
                      rw [HBS.out] at hp
                      rcases List.mem_append.1 hp with h | h
                      · exact hKb.out p h
                      · simp at h
                        rcases h with rfl | rfl
                        · exact ⟨han, hbn⟩
                        · exact ⟨hbn, han⟩
                    have HRR2 : Hid (∀ p ∈ day.take (j + 1), (0 ≤ p.1 ∧ p.1 < (n : Int)) ∧ (0 ≤ p.2 ∧ p.2 < (n : Int)) ∧ p.1 ≠ p.2) := fun p hp => by
                      rw [HTJ.out] at hp
                      rcases List.mem_append.1 hp with h | h
                      · exact hRr.out p h
                      · rw [List.mem_singleton.1 h]
                        exact ⟨⟨by simp, by simp; omega⟩, ⟨by simp, by simp; omega⟩, by simp; omega⟩
                    have HSS : Hid (IsSet (sn ||| pw a ||| pw b9) ((R ++ [(a, b9)]).flatMap endsN)) := by unfold Hid; rw [HES.out]; exact hRs.out.add2 a b9
                    have hsn2 : sn ||| pw a ||| pw b9 < 65536 := Nat.lt_of_lt_of_le (HSS.out.lt (n := n) (fun u hu => by
                      rw [HES.out] at hu
                      rcases List.mem_append.1 hu with h | h
                      · obtain ⟨⟨c8, c9⟩, h1, h2⟩ := List.mem_flatMap.1 h
                        have h3 := hKb.out (c8, c9) (List.mem_flatMap.2 ⟨(c8, c9), List.mem_append_right _ h1, by simp [bothN]⟩)
                        simp [endsN] at h2
                        simp only at h3
                        omega
                      · simp at h; omega)) (Nat.pow_le_pow_right (n := 2) (i := n) (j := 16) (by decide) h16)
                    have HM4 : Hid (MarkN (wf.setCell ⟨M, ky, none⟩ (.bool true)) M N ((((L ++ R).flatMap bothN).map fun p => p.1 * n + p.2) ++ [ky])) := HM3.out.set ky
                    have HM5 : Hid (MarkN ((wf.setCell ⟨M, ky, none⟩ (.bool true)).setCell ⟨M, ky2, none⟩ (.bool true)) M N (((L ++ (R ++ [(a, b9)])).flatMap bothN).map fun p => p.1 * n + p.2)) := by rw [HKE.out]; exact HM4.out.set ky2
                    have HB5 : Hid (Below w.heap.size w ((wf.setCell ⟨M, ky, none⟩ (.bool true)).setCell ⟨M, ky2, none⟩ (.bool true))) := (HB3.out.setCell (by show w.heap.size ≤ M; rw [hM.out]; exact Nat.le_refl _) _).setCell (by show w.heap.size ≤ M; rw [hM.out]; exact Nat.le_refl _) _
                    have HMW : Hid (∀ d : BW wf.heap.size wf, MarkN ((d.w.setCell ⟨M, ky, none⟩ (.bool true)).setCell ⟨M, ky2, none⟩ (.bool true)) M N (((L ++ (R ++ [(a, b9)])).flatMap bothN).map fun p => p.1 * n + p.2)) := fun d => by
                      rw [HKE.out]
                      exact ((HM3.out.below d.b HM3.out.lt).set ky).set ky2
                    have HBW : Hid (∀ d : BW wf.heap.size wf, Below w.heap.size w ((d.w.setCell ⟨M, ky, none⟩ (.bool true)).setCell ⟨M, ky2, none⟩ (.bool true))) := fun d => ((HB3.out.trans (d.b.mono HB3.out.size)).setCell (by show w.heap.size ≤ M; rw [hM.out]; exact Nat.le_refl _) _).setCell (by show w.heap.size ≤ M; rw [hM.out]; exact Nat.le_refl _) _
                    have HMX : Hid (∀ d : BW wf.heap.size wf, MarkN d.w M N (((L ++ R).flatMap bothN).map fun p => p.1 * n + p.2)) := fun d => HM3.out.below d.b HM3.out.lt
                    have pa2 := pw_27 (show a < 40 by omega)
                    have pb2 := pw_27 (show b9 < 40 by omega)
                    have wa : wrap64 (2 ^ a) = ((pw a : Nat) : Int) := wrap_pw (by omega)
                    have wb : wrap64 (2 ^ b9) = ((pw b9 : Nat) : Int) := wrap_pw (by omega)
                    have o1 := or_27 (show sn < 1099511627776 by omega) pa2
                    have pab : sn ||| pw a < 1099511627776 := Nat.or_lt_two_pow (n := 40) (show sn < 2 ^ 40 by omega) pa2
                    have o2 := or_27 pab pb2
                    generalize sn ||| pw a ||| pw b9 = sn2 at *
                    generalize hg1 : sn ||| pw a = sna at *
                    clear hg1 HM4 HM5 HB5 hm HNS u1 u2 u3 u4 u5 u6 u7
                    go_wp2
                    refine wp_region_bw (by kernel_rfl) (by kernel_rfl) ?_
                    repeat (go_big_quiet_step (rfl))
                    refine wpQuiet_nil ?_
                    rintro _ ⟨d4, rfl⟩
                    clear wa wb o1 o2 pa2 pb2 pab
                    have HM6 := Lib.hid (HMX.out d4)
                    have HM8 := Lib.hid (HMW.out d4)
                    have HB8 := Lib.hid (HBW.out d4)
                    clear HMX HMW HBW
                    generalize d4.w = wg at *
                    have m1 := HM6.out.cell hkey
                    have f1 := HM6.out.frozen ky
                    have m2 := (HM6.out.set ky).cell hkey2
                    have f2 := (HM6.out.set ky).frozen ky2
                    have w1 : IntKind.i64.wrap (un : Int) = (un : Int) := wrap_small un (by omega)
                    have w2 : IntKind.i64.wrap (ky : Int) = (ky : Int) := wrap_small ky (by omega)
                    have w3 : IntKind.i64.wrap (un2 : Int) = (un2 : Int) := wrap_small un2 (by omega)
                    have w4 : IntKind.i64.wrap (ky2 : Int) = (ky2 : Int) := wrap_small ky2 (by omega)
                    go_wp2
                    clear w1 w2 w3 w4
                    exact ⟨⟨j + 1, sn2, R ++ [(a, b9)], by omega, int_eq (by omega), rfl, hsn2, HRD2, HSS, HES2, HBS2, HBB, HRR2, HM8, HB8⟩, by simp [intOf]; omega⟩
            · have g2 : ¬ (j : Int) < (dl : Int) := by omega
              obtain rfl : dl = j := by omega
              have HDE : Hid (day.take dl = day) := by unfold Hid; rw [List.take_of_length_le (by rw [hdl.out]; exact Nat.le_refl _)]
              rw [HDE.out] at hRd hRr
              have HLF2 : Hid ((s.take (i + 1)).flatten = castP (L ++ R)) := by unfold Hid; rw [HTK.out, List.flatten_append, castP_app, hLf.out]; simp [hRd.out]
              have HRO2 : Hid (∀ d ∈ s.take (i + 1), RowOk n d) := fun d hd => by
                rw [HTK.out] at hd
                rcases List.mem_append.1 hd with h | h
                · exact hRo.out d h
                · rw [List.mem_singleton.1 h]
                  refine ⟨by rw [hdl.out, hh.out]; exact hrow, hRr.out, ?_⟩
                  rw [hRd.out, ends_cast, nodup_castL]
                  exact hRn.out
              go_wp2
              exact ⟨⟨i + 1, L ++ R, by omega, int_eq (by omega), HLF2, hKn, hKb, HRO2, hMq, hBq⟩, by simp [intOf]; omega⟩
        · have q2 : ((dl : Int) != (h : Int)) = true := by simp; omega
          have HF : Hid (¬ SchI n s) := fun H => hrow (by have := H.row day HDM.out; rw [hdl.out, hh.out] at this; exact this)
          go_wp2
          go_ret
          exact ⟨⟨90, rfl, .inr ⟨HF.out, rfl⟩⟩, hB.out⟩
      · have g1 : ¬ (i : Int) < (len : Int) := by omega
        obtain rfl : len = i := by omega
        have HE : Hid (s.take len = s) := by unfold Hid; rw [List.take_of_length_le (by rw [HL.out]; exact Nat.le_refl _)]
        rw [HE.out] at hLf hRo
        have HY : Hid (SchI n s) := ⟨by rw [HL.out]; exact hlen, fun d hd => (hRo.out d hd).1, fun d hd => (hRo.out d hd).2.1, fun d hd => (hRo.out d hd).2.2, by rw [hLf.out, both_cast, nodup_castP]; exact hLn.out⟩
        go_wp2
        go_ret
        exact ⟨⟨0, rfl, .inl ⟨HY.out, rfl⟩⟩, hB.out⟩
  · have q1 : ((len : Int) != ((n : Int) - 1)) = true := by simp; omega
    have HF : Hid (¬ SchI n s) := fun H => hlen (by have := H.len; rw [HL.out] at this; exact this)
    go_wp2_with (go_at_call 12; refine HE.out.mono ?_; rintro e w4 ⟨rfl, hw4⟩; replace hw4 := hw4.symm; subst hw4; try dsimp only)
    go_ret
    exact ⟨⟨90, rfl, .inr ⟨HF.out, rfl⟩⟩, Below.refl _ _⟩
end Go.Proofs.Ytocnhikohfkcaaa
